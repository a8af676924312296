/- store.pack. -/
import Derived.Test.YtokfddlknhijbaaGreatDoorPack
namespace Go.Proofs.YtokfddlknhijbaaGreatDoor
open Go Go.RowKit Go.Maps
attribute [local go_sem ↓] Go.wp_at_zero Go.wp_at_succ
def PackPost (w : World) (L : List Txt) (e : Ending) (w' : World) : Prop := e = .returned (encStr (packS L)) ∧ Below w.heap.size w w'
theorem PackAt.at {w W : World} {v : Value} {L : List Txt} {acc : Str} (h : PackAt w v L acc W) {s mb : Nat} {p k hf dd : Value} (hb : Blk w s [p, .map (some mb), k, hf, dd] 77) (hm : MapAt w mb L) :
    Blk W s [p, .map (some mb), k, hf, dd] 77 ∧ MapAt W mb L :=
  ⟨hb.step (Step.of_below h.below Nil) (fun h => h), hm.step (Step.of_below h.below Nil) (fun h => h)⟩
theorem look_at {L : List Txt} (hr : Rising L) (i : Nat) (hi : i < L.length) : look L (L[i]).1 = (L[i]).2 := by
  have irr : ∀ a : Str, Op.bytesLess a a = false := fun a => by rw [bytesLess_eq]; simp
  have hf : L.find? (fun x => x.1 == (L[i]).1) = some L[i] := by
    rw [List.find?_eq_some_iff_getElem]
    refine ⟨by simp, i, hi, rfl, fun j hj => ?_⟩
    have := List.pairwise_iff_getElem.1 hr j i (by omega) hi hj
    simp only [Bool.not_eq_true', beq_eq_false_iff_ne, ne_eq]
    intro e
    rw [e, irr] at this
    cases this
  unfold look
  rw [hf]
theorem PackAt.cells {w W : World} {v : Value} {L : List Txt} {acc : Str} (h : PackAt w v L acc W) {s mb : Nat} {p k hf dd : Value} (hbm : Blk w s [p, .map (some mb), k, hf, dd] 77 ∧ MapAt w mb L) {nm tx : Str} (hk : nm.length ≤ 1000000) (ht : look L nm = tx) :
    W.cell? ⟨s, 1, none⟩ = some (.map (some mb)) ∧ (Instr.lookup 74 (.map (some mb)) (.string ⟨nm.toArray⟩) false).run Tryz.prog W = .ok (.string ⟨tx.toArray⟩) W := by
  obtain ⟨h1, h2⟩ := h.at hbm.1 hbm.2
  refine ⟨h1.cell 1, ?_⟩
  have := map_look h2 hk
  rw [ht] at this
  exact this
theorem PackAt.write {w W W' : World} {v : Value} {L : List Txt} {acc t : Str} {s : ByteArray} {p : Value} (h : PackAt w v L acc W) (hs : s.data.toList = t) (hp : p = .pointer (some ⟨w.heap.size, 0, none⟩))
    (hB : Lib.BuilderAt 103 5 w.heap.size w.heap.size p (Lib.byteCells acc ++ Lib.strCells s) W') (hb : Below w.heap.size W W') (hk : Kept w.heap.size W W') : PackAt w v L (acc ++ t) W' := by
  subst hs hp
  refine ⟨h.below.trans hb, hk.row hb.size h.row h.ne (by decide), h.ne, .inr ?_⟩
  have : Lib.byteCells acc ++ Lib.strCells s = Lib.byteCells (acc ++ s.data.toList) := by simp [Lib.byteCells, Lib.strCells]
  rw [← this]; exact hB
theorem wlen {acc a b : Str} (h : acc.length + (a.length + b.length) ≤ 100000000) : (Lib.byteCells acc).length + ((⟨a.toArray⟩ : ByteArray) ++ ⟨b.toArray⟩).size ≤ 140737488355328 := by
  simp [Lib.byteCells]
  have : (⟨a.toArray⟩ : ByteArray).size = a.length := by show a.toArray.size = _; simp
  have : (⟨b.toArray⟩ : ByteArray).size = b.length := by show b.toArray.size = _; simp
  omega
set_option maxHeartbeats 1000000 in
set_option maxRecDepth 100000 in
theorem pack_any (s mb : Nat) (p k hf dd : Value) (L : List Txt) (w : World) (hb : Blk w s [p, .map (some mb), k, hf, dd] 77) (hm : MapAt w mb L) (hr : Rising L) (hL : L.length ≤ 1000)
    (hs : ∀ x ∈ L, x.1.length ≤ 1000000 ∧ x.2.length ≤ 1000000) (hP : (packS L).length ≤ 100000000) :
    Calls Tryz.prog 43 #[.pointer (some ⟨s, 0, none⟩)] w (PackPost w L) := by
  have hn := names_any s mb p k hf dd L (w.alloc (.cells #[.pointer none, .slice none 0 0] 103)) (hb.alloc _) (World.ownsMap.alloc hm _) hr (by omega)
  go_enter Tryz.func43, Tryz.ntmps43
  go_wp2_with fail
  refine hn.mono ?_
  rintro e w1 ⟨v, rfl, hrow, hbel⟩
  obtain ⟨A, c, rfl⟩ := row_slice hrow
  have P0 : PackAt w (.slice A L.length c) L (packS (L.take 0)) w1 := by
    have hs0 : w.heap.size < (w.alloc (.cells #[.pointer none, .slice none 0 0] 103)).heap.size := by simp
    have hbw : Below w.heap.size w w1 := ((Below.refl w.heap.size w).alloc (Nat.le_refl _) _).trans (hbel.mono (by simp))
    refine ⟨hbw, ?_, ?_, ?_⟩
    · refine ⟨hrow.1, ?_⟩
      rcases hrow.2 with h2 | ⟨g, cap, cur, e, hb, rest⟩
      · exact .inl h2
      · exact .inr ⟨g, cap, cur, e, by omega, rest⟩
    · intro e
      have := (hrow.lt _ e).1
      omega
    · have B0 : Lib.IsBuilder 103 5 w.heap.size w.heap.size (Lib.byteCells (packS (L.take 0))) (w.alloc (.cells #[.pointer none, .slice none 0 0] 103)) :=
        .inl ⟨Nat.le_refl _, .slice none 0 0, (Blk.new w [.pointer none, .slice none 0 0] 103), ⟨rfl, .inl ⟨rfl, rfl⟩⟩, by simp [Value.ownBlock]⟩
      exact builder_step B0 hbel
  clear hn hrow hbel
  have BM := Lib.hid (And.intro hb hm)
  clear hb hm
  go_wp2_with fail
  go_loopw [9] (fun v9 W => ∃ i : Nat, i ≤ L.length ∧ v9 = .int .i64 i ∧ PackAt w (.slice A L.length c) L (packS (L.take i)) W) (fun v9 _ => L.length - (intOf v9).toNat)
  case atStart => exact ⟨0, Nat.zero_le _, rfl, P0⟩
  case round =>
    obtain ⟨i, hi, rfl, hP1⟩ := hrel
    have hlen := hP1.row.1
    by_cases hlt : i < L.length
    · obtain ⟨hbW, hmW⟩ := hP1.at BM.out.1 BM.out.2
      obtain ⟨g, cg, hg0, -, hgl, -⟩ := row_form hP1.row (by omega)
      simp only [Value.slice.injEq, true_and] at hg0
      obtain ⟨rfl, -⟩ := hg0
      have c1 : wr.cell? ⟨s, 1, none⟩ = some (.map (some mb)) := hbW.cell 1
      have z0 : wr.cell? ⟨g, i, none⟩ = some (.string ⟨(L[i]).1.toArray⟩) := by
        rw [hP1.row.cellAt i (by omega)]; simp [hlt]
      have hx := hs _ (List.getElem_mem hlt)
      have hl0 := map_look hmW hx.1
      have hlk := look_at hr i hlt
      rw [hlk] at hl0
      have h1 := packS_take L (i + 1)
      rw [List.take_succ_eq_append_getElem hlt, packS_snoc] at h1
      have hPL : (packS (L.take i)).length + ((item (L[i]).1).length + (item (L[i]).2).length) ≤ 100000000 := by simp at h1; omega
      have hPE : ∀ W, PackAt w (.slice (some ⟨g, 0, none⟩) L.length c) L (packS (L.take i) ++ (item (L[i]).1 ++ item (L[i]).2)) W → PackAt w (.slice (some ⟨g, 0, none⟩) L.length c) L (packS (L.take (i + 1))) W := by
        intro W h; rw [List.take_succ_eq_append_getElem hlt, packS_snoc]; exact h
      have HPE := Lib.hid hPE
      have li1 : (item (L[i]).1).length ≤ 2000000 := by simp [item, be4_length]; omega
      have li2 : (item (L[i]).2).length ≤ 2000000 := by simp [item, be4_length]; omega
      have hcat : ¬ (9223372036854775807 < (item (L[i]).1).length + (item (L[i]).2).length) := by omega
      clear hPE h1
      have hP2 := hP1.drew
      clear hbW hmW hgl
      generalize (L[i]).1 = nm at *
      generalize (L[i]).2 = tx at *
      go_wp2_with fail
      go_region_held3 (fun W => W.cell? ⟨s, 1, none⟩ = some (.map (some mb)) ∧ (Instr.lookup 74 (.map (some mb)) (.string ⟨nm.toArray⟩) false).run Tryz.prog W = .ok (.string ⟨tx.toArray⟩) W)
        (exact PackAt.cells (by assumption) BM.out hx.1 hlk)
        (first
          | (go_at_call 65; refine (item_any _ (by first | exact hx.1 | exact hx.2) _).mono ?_; rintro e w' ⟨rfl, hb⟩; have hP' := PackAt.step (by assumption) hb)
          | (go_at_call 51; refine (writeString_any w.heap.size w.heap.size _ _ _ (PackAt.bld (by assumption)) (wlen hPL) (PackAt.below (by assumption)).size).mono ?_; rintro e w' ⟨rfl, hB, hb, hk⟩; have hP'' := HPE.out _ (PackAt.write (by assumption) rfl rfl hB hb hk)))
      all_goals (
        go_wp2_with fail
        go_round
        case rel => exact ⟨i + 1, by omega, by go_num, by assumption⟩
        case measure => simp [intOf]; omega)
    · have hiL : i = L.length := by omega
      subst hiL
      rw [List.take_of_length_le (Nat.le_refl _)] at hP1
      clear P0 hlen
      go_wp2_with fail
      refine (Tryz.Builder_String_any w.heap.size w.heap.size (packS L) wr hP1.bld hP1.below.size).mono ?_
      rintro e w2 ⟨rfl, hb2⟩
      go_wp2_with fail
      go_ret
      exact ⟨rfl, hP1.below.trans hb2⟩
end Go.Proofs.YtokfddlknhijbaaGreatDoor
