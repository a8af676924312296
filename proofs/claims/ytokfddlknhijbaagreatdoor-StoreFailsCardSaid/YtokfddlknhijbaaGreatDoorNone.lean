/- StoreNone: the walk. -/
import Derived.Test.YtokfddlknhijbaaGreatDoorActs
import Derived.Test.YtokfddlknhijbaaGreatDoorKeeps
namespace Go.Proofs.YtokfddlknhijbaaGreatDoor
open Go Go.RowKit Go.Maps
theorem actD_left (D : Dsk) (c : Actn) (h : D.left = -1) : (actD D c).left = -1 := by
  unfold actD
  split
  · unfold Dsk.write; (repeat' split) <;> simp [spent, h]
  · split
    · unfold Dsk.flush; split <;> simp [spent, h]
    · split
      · rfl
      · exact h
theorem actD_len (D : Dsk) (c : Actn) (h : D.Ok) : (actD D c).now.length = D.now.length := by
  unfold actD
  split
  · exact write_now _ _ _
  · split
    · exact flush_now _
    · split
      · show (land c.keep 0 D.waits D.kept).length = _
        rw [land_length, h.len]
      · rfl
theorem actD_waits (D : Dsk) (c : Actn) : (actD D c).waits.length ≤ D.waits.length + 1 := by
  unfold actD
  split
  · exact write_waits _ _ _
  · split
    · have := flush_waits D; omega
    · split
      · show ([] : List (Nat × Str)).length ≤ _
        simp
      · omega
theorem moves_out {B : Nat} {w w' : World} {a : Nat} {S : Nat → Prop} {D : Dsk} (hm : Moves B w a S D w') (hB : B ≤ w.heap.size) (lo : ∀ j, S j → B ≤ j) : ∃ S', DiskAt B w' a D S' ∧ Below B w w' := by
  obtain ⟨S', hd, hs⟩ := hm
  exact ⟨S', hd, hs.below hB lo⟩
theorem DiskAt.lo {B : Nat} {w : World} {a : Nat} {D : Dsk} {S : Nat → Prop} (h : DiskAt B w a D S) : ∀ j, S j → B ≤ j := by obtain ⟨_, _, _, h⟩ := h; exact h.lo
theorem DiskAt.ok {B : Nat} {w : World} {a : Nat} {D : Dsk} {S : Nat → Prop} (h : DiskAt B w a D S) : D.Ok := by obtain ⟨_, _, _, h⟩ := h; exact h.ok
set_option maxHeartbeats 4000000 in
set_option maxRecDepth 100000 in
theorem none_any (B : Nat) (E : Nat → Addr) (w : World) (hE : Env B E w) (A : Option Addr) (c : Nat) (l : List Actn) (n : Nat) (hl : ActsAt w.heap.size w A l) (hll : l.length ≤ 140737488355328) (h8 : 8 ≤ n) (h100 : n ≤ 100) :
    Calls Tryz.prog 5 #[.slice A l.length c, .int .i64 n] w (HoldPost w) := by
  have hE := hE.top
  have hho := hold_any _ E w hE
  have n0 : ¬ (n : Int) < 8 := by omega
  have n1 : ¬ (100 : Int) < (n : Int) := by omega
  go_enter Tryz.func5, Tryz.ntmps5
  go_wp2_with fail
  refine hho.mono ?_
  rintro e w1 ⟨rfl, hb1⟩
  have hli := few_any w.heap.size A c l w1 (hl.below hb1) hll
  clear hho
  go_wp2_with fail
  refine hli.mono ?_
  rintro e w2 ⟨b, rfl, hlt, rfl⟩
  clear hli
  cases b with
  | false =>
    go_wp2_with fail
    go_ret
    exact ⟨rfl, hb1⟩
  | true =>
    have hL := hlt rfl
    have h60 := hL.len
    have hn9 := new_any w.heap.size n w1 hb1.size (by omega) (by omega)
    clear hlt
    go_wp2_with fail
    refine hn9.mono ?_
    rintro e w2 ⟨a, S1, rfl, hd1, hs1⟩
    have hb2 : Below w.heap.size w1 w2 := hs1.below hb1.size (fun k hk => absurd hk (fun h => h))
    have hb12 := hb1.trans hb2
    have hf8 := fresh_len n
    have hoa := open_any w.heap.size E a (Dsk.fresh n) S1 w2 hd1 (hE.below hb12) (by rw [hf8.1]; omega)
    rw [fresh_opens] at hoa
    have hwts : (Dsk.fresh n).waits.length ≤ 0 := by simp [Dsk.fresh]
    generalize Dsk.fresh n = D0 at *
    clear hn9 hs1
    go_wp2_with fail
    refine hoa.mono ?_
    rintro e w3 ⟨rfl, hb3⟩
    have hd3 := hd1.step hb3
    have hb13 := hb12.trans (hb3.mono hb12.size)
    have hcd := coded_any w.heap.size E 1 1 w3 (hE.below hb13) (by omega)
    rw [show decide (((1 : Nat) : Int) = 1) = true by decide] at hcd
    obtain ⟨ev, hev⟩ : ∃ ev, ev = errv E 1 := ⟨_, rfl⟩
    rw [← hev] at hcd ⊢
    clear hoa hev hd1
    go_wp2_with fail
    refine hcd.mono ?_
    rintro e w4 ⟨rfl, hb4⟩
    have hd4 := hd3.step hb4
    have hb14 := hb13.trans (hb4.mono hb13.size)
    have hll0 := hf8.1
    have hlf0 := hf8.2
    clear hcd hd3 hf8
    go_wp2_with fail
    go_loopw [9] (fun v9 wr => ∃ (i : Nat) (D : Dsk) (S : Nat → Prop), i ≤ l.length ∧ v9 = .int .i64 i ∧ D.left = -1 ∧ D.now.length = n ∧ D.waits.length ≤ i ∧ DiskAt w.heap.size wr a D S ∧ Below w.heap.size w wr) (fun v9 _ => l.length - (intOf v9).toNat)
    case atStart => exact ⟨0, D0, S1, by omega, rfl, hlf0, hll0, hwts, hd4, hb14⟩
    case round =>
      obtain ⟨i, D, S, hi, rfl, hleft, hlen, hwt, hd, hb⟩ := hrel
      clear hd4 hb14 hll0 hlf0 hwts
      by_cases hlt : i < l.length
      · obtain ⟨b0, off, rfl, hb0, hcell⟩ := hl.1 (by omega)
        have hltI : (i : Int) < (l.length : Int) := by omega
        obtain ⟨y0, y1, y2, y3⟩ := hcell i hlt
        have hat := (hl.2 _ (List.getElem_mem hlt)).below hb
        have hk200 := hL.keep _ (List.getElem_mem hlt)
        have z0 : wr.cell? ⟨b0, off + i * 4, none⟩ = some (encStr (l[i]).kind) := (hb.cell (p := ⟨b0, _, none⟩) hb0).trans y0
        have z1 : wr.cell? ⟨b0, off + i * 4 + 1, none⟩ = some (.int .i64 (l[i]).n) := (hb.cell (p := ⟨b0, _, none⟩) hb0).trans y1
        have z2 : wr.cell? ⟨b0, off + i * 4 + 2, none⟩ = some (encStr (l[i]).s) := (hb.cell (p := ⟨b0, _, none⟩) hb0).trans y2
        have z3 : wr.cell? ⟨b0, off + i * 4 + 3, none⟩ = some (.slice (l[i]).A (l[i]).len (l[i]).cap) := (hb.cell (p := ⟨b0, _, none⟩) hb0).trans y3
        clear hcell y0 y1 y2 y3 hl
        generalize l[i] = ci at *
        by_cases hf : ci.kind = kFail
        · rw [hf] at z0
          have b1 : (kFail != [102, 97, 105, 108]) = false := rfl
          have b2 : (kFail == [102, 97, 105, 108]) = true := rfl
          clear hat z1 z2 z3
          go_wp2_with fail
          go_round
          case rel => exact ⟨i + 1, D, S, by omega, by go_num, hleft, hlen, by omega, hd, hb⟩
          case measure => simp [intOf]; omega
        · have b2 : (ci.kind == [102, 97, 105, 108]) = false := beq_lit hf
          have b1 : (ci.kind != [102, 97, 105, 108]) = true := by unfold bne; rw [b2]; rfl
          have hac := act_any w.heap.size E w.heap.size a D S ci wr hd (hE.below hb) hat hb.size hf (by omega) (by omega)
          have q1 := actD_left D ci hleft
          have q2 := actD_len D ci hd.ok
          have q3 := actD_waits D ci
          have hlo := hd.lo
          clear hf hat hd hleft
          generalize actD D ci = D' at *
          go_wp2_with fail
          refine hac.mono ?_
          rintro e w5 ⟨u, rfl, hm⟩
          obtain ⟨S', hd5, hb5⟩ := moves_out hm hb.size hlo
          clear hac hm
          go_wp2_with fail
          go_round
          case rel => exact ⟨i + 1, D', S', by omega, by go_num, q1, by omega, by omega, hd5, hb.trans hb5⟩
          case measure => simp [intOf]; omega
      · obtain rfl : i = l.length := by omega
        have hkk : ¬ (l.length : Int) < (l.length : Int) := by omega
        have hoa := open_any w.heap.size E a D S wr hd (hE.below hb) (by omega)
        clear hl
        cases hop : openS D with
        | none =>
          rw [hop] at hoa
          clear hop
          go_wp2_with fail
          refine hoa.mono ?_
          rintro e w5 ⟨rfl, hb5⟩
          have hd5 := hd.step hb5
          have hb05 := hb.trans (hb5.mono hb.size)
          have hcd := coded_any w.heap.size E 1 1 w5 (hE.below hb05) (by omega)
          rw [show decide (((1 : Nat) : Int) = 1) = true by decide] at hcd
          obtain ⟨q, hq⟩ := errv_ne E 1 (by omega)
          simp only [hq] at hcd ⊢
          clear hoa hd hq
          go_wp2_with fail
          refine hcd.mono ?_
          rintro e wX ⟨rfl, hb6⟩
          have hdX := hd5.step hb6
          have hbX := hb05.trans (hb6.mono hb05.size)
          clear hcd hd5
          obtain ⟨D1, e1, l1', c1, H1, n1'⟩ := format_ok D (by omega) hleft
          have hfm := format_any w.heap.size E a D S wX hdX (hE.below hbX) (by omega)
          rw [e1] at hfm
          have hloX := hdX.lo
          clear e1 hdX
          go_wp2_with fail
          refine hfm.mono ?_
          rintro e w7 (⟨x, _⟩ | ⟨-, s, mb, S7, rfl, hI7, hs7⟩)
          · exact absurd rfl x
          have hb7 := hbX.trans (hs7.below hbX.size hloX)
          simp only at hI7
          have hhd := holds_any w.heap.size E s a mb D1 [] 1 1 false S7 (.slice none 0 0) [] w7 hI7 (hE.below hb7) (World.ownsRow_nil _ _ _ _) List.Pairwise.nil (by simp) (by simp) (by simp) true (by simp)
          clear hfm hs7 hloX
          go_wp2_with fail
          refine hhd.mono ?_
          rintro e w8 ⟨rfl, hb8⟩
          have hI8 := hI7.step hb8
          have hb08 := hb7.trans (hb8.mono hb7.size)
          have hG : Good D1 [] 1 1 := ⟨c1, H1⟩
          have hcr := crash_any w.heap.size a D1 S7 [] (.slice none 0 0) w8 hI8.disk (World.ownsRow_nil _ _ _ _) hb08.size (fun k hk => by simp [Value.ownBlock] at hk) (by rw [c1.waits]; simp)
          clear hhd hI7
          go_wp2_with fail
          refine hcr.mono ?_
          rintro e w9 ⟨rfl, hm⟩
          obtain ⟨S9, hd9, hs9, hb9⟩ := crash_moves hI8 hm hb08.size
          have hb09 := hb08.trans hb9
          have hop := (hG.crash []).opens Fit.nil (by omega) (by omega) (by omega)
          have hlen9 : (Dsk.crash D1 []).now.length = n := by rw [(c1.crash []).1]; omega
          clear hcr hm hI8 hs9 hG H1 c1
          generalize Dsk.crash D1 [] = D9 at *
          have hoa := open_any w.heap.size E a D9 S9 w9 hd9 (hE.below hb09) (by omega)
          rw [hop] at hoa
          clear hop
          go_wp2_with fail
          refine hoa.mono ?_
          rintro e w10 ⟨o, rfl, hb10, hS10⟩
          obtain ⟨mb10, hI10, hs10⟩ := hS10.store hd9 hb10 hb09.size
          have hb010 := hb09.trans (hb10.mono hb09.size)
          have hhd := holds_any w.heap.size E o a mb10 D9 [] 1 1 false S9 (.slice none 0 0) [] w10 hI10 (hE.below hb010) (World.ownsRow_nil _ _ _ _) List.Pairwise.nil (by simp) (by simp) (by simp) true (by simp)
          clear hoa hS10
          go_wp2_with fail
          refine hhd.mono ?_
          rintro e w11 ⟨rfl, hb11⟩
          clear hhd
          go_wp2_with fail
          go_ret
          exact ⟨rfl, hb010.trans (hb11.mono hb010.size)⟩
        | some x =>
          rw [hop] at hoa
          clear hop
          go_wp2_with fail
          refine hoa.mono ?_
          rintro e wX ⟨o0, rfl, hb5, -⟩
          have hdX := hd.step hb5
          have hbX := hb.trans (hb5.mono hb.size)
          clear hoa hd
          obtain ⟨D1, e1, l1', c1, H1, n1'⟩ := format_ok D (by omega) hleft
          have hfm := format_any w.heap.size E a D S wX hdX (hE.below hbX) (by omega)
          rw [e1] at hfm
          have hloX := hdX.lo
          clear e1 hdX
          go_wp2_with fail
          refine hfm.mono ?_
          rintro e w7 (⟨x, _⟩ | ⟨-, s, mb, S7, rfl, hI7, hs7⟩)
          · exact absurd rfl x
          have hb7 := hbX.trans (hs7.below hbX.size hloX)
          simp only at hI7
          have hhd := holds_any w.heap.size E s a mb D1 [] 1 1 false S7 (.slice none 0 0) [] w7 hI7 (hE.below hb7) (World.ownsRow_nil _ _ _ _) List.Pairwise.nil (by simp) (by simp) (by simp) true (by simp)
          clear hfm hs7 hloX
          go_wp2_with fail
          refine hhd.mono ?_
          rintro e w8 ⟨rfl, hb8⟩
          have hI8 := hI7.step hb8
          have hb08 := hb7.trans (hb8.mono hb7.size)
          have hG : Good D1 [] 1 1 := ⟨c1, H1⟩
          have hcr := crash_any w.heap.size a D1 S7 [] (.slice none 0 0) w8 hI8.disk (World.ownsRow_nil _ _ _ _) hb08.size (fun k hk => by simp [Value.ownBlock] at hk) (by rw [c1.waits]; simp)
          clear hhd hI7
          go_wp2_with fail
          refine hcr.mono ?_
          rintro e w9 ⟨rfl, hm⟩
          obtain ⟨S9, hd9, hs9, hb9⟩ := crash_moves hI8 hm hb08.size
          have hb09 := hb08.trans hb9
          have hop := (hG.crash []).opens Fit.nil (by omega) (by omega) (by omega)
          have hlen9 : (Dsk.crash D1 []).now.length = n := by rw [(c1.crash []).1]; omega
          clear hcr hm hI8 hs9 hG H1 c1
          generalize Dsk.crash D1 [] = D9 at *
          have hoa := open_any w.heap.size E a D9 S9 w9 hd9 (hE.below hb09) (by omega)
          rw [hop] at hoa
          clear hop
          go_wp2_with fail
          refine hoa.mono ?_
          rintro e w10 ⟨o, rfl, hb10, hS10⟩
          obtain ⟨mb10, hI10, hs10⟩ := hS10.store hd9 hb10 hb09.size
          have hb010 := hb09.trans (hb10.mono hb09.size)
          have hhd := holds_any w.heap.size E o a mb10 D9 [] 1 1 false S9 (.slice none 0 0) [] w10 hI10 (hE.below hb010) (World.ownsRow_nil _ _ _ _) List.Pairwise.nil (by simp) (by simp) (by simp) true (by simp)
          clear hoa hS10
          go_wp2_with fail
          refine hhd.mono ?_
          rintro e w11 ⟨rfl, hb11⟩
          clear hhd
          go_wp2_with fail
          go_ret
          exact ⟨rfl, hb010.trans (hb11.mono hb010.size)⟩
end Go.Proofs.YtokfddlknhijbaaGreatDoor
