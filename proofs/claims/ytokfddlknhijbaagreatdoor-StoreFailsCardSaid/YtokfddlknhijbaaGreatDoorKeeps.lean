/- StoreKeeps: the walk. -/
import Derived.Test.YtokfddlknhijbaaGreatDoorFull
namespace Go.Proofs.YtokfddlknhijbaaGreatDoor
open Go Go.RowKit Go.Maps
theorem Txs.mono {w : World} {v : Value} {l : List Txt} {T T' : Nat → Prop} (h : Txs w v l T) (hT : ∀ j, T' j → T j) : Txs w v l T' := ⟨h.1, fun j hj ht => h.2 j hj (hT j ht)⟩
/-- What a store's disk, crashed and opened again, leaves. -/
theorem crash_moves {D' : Dsk} {B : Nat} {w w' : World} {a s mb : Nat} {S : Nat → Prop} {D : Dsk} {L : List Txt} {k h : Nat} {dead : Bool} (H : StoreIn B w s a mb D L k h dead S) (hm : Moves B w a S D' w') (hB : B ≤ w.heap.size) :
    ∃ S', DiskAt B w' a D' S' ∧ Step S w S' w' ∧ Below B w w' := by
  obtain ⟨S', hd, hs⟩ := hm
  exact ⟨S', hd, hs, hs.below hB (fun j hj => H.lo' j (.inr (.inr hj)))⟩
set_option maxHeartbeats 4000000 in
set_option maxRecDepth 100000 in
theorem keeps_any (B : Nat) (E : Nat → Addr) (w : World) (hE : Env B E w) (A : Option Addr) (c : Nat) (l : List Chg) (nm : Str) (hl : ChgsAt w.heap.size w A l) (hll : l.length ≤ 140737488355328) (ht : ∀ c ∈ l, c.text.length ≤ 140737488355328) (hnm : ∀ c ∈ l, c.name.length ≤ 140737488355328) (hn : nm.length ≤ 140737488355328) :
    Calls Tryz.prog 6 #[.slice A l.length c, encStr nm] w (HoldPost w) := by
  have hE := hE.top
  have hho := hold_any _ E w hE
  show Calls Tryz.prog 6 #[.slice A l.length c, .string ⟨nm.toArray⟩] w (HoldPost w)
  go_enter Tryz.func6, Tryz.ntmps6
  go_wp2_with fail
  refine hho.mono ?_
  rintro e w1 ⟨rfl, hb1⟩
  have hli := light_any w.heap.size A c l w1 (hl.below hb1) hll ht hnm
  clear hho ht hnm
  go_wp2_with fail
  refine hli.mono ?_
  rintro e w2 ⟨b, rfl, hlt, rfl⟩
  clear hli
  cases b with
  | false =>
    go_wp2_with fail
    go_ret
    exact ⟨rfl, hb1⟩
  | true =>
    by_cases h100 : (100 : Int) < (nm.length : Int)
    · clear hlt
      go_wp2_with fail
      go_ret
      exact ⟨rfl, hb1⟩
    have hL := hlt rfl
    have h60 := hL.len
    have hn9 := new_any w.heap.size 1500 w1 hb1.size (by omega) (by omega)
    clear hlt
    go_wp2_with fail
    refine hn9.mono ?_
    rintro e w2 ⟨a, S1, rfl, hd1, hs1⟩
    have hb2 : Below w.heap.size w1 w2 := hs1.below hb1.size (fun k hk => absurd hk (fun h => h))
    have hb12 := hb1.trans hb2
    have hE2 := hE.below hb12
    have hf8 := fresh_len 1500
    obtain ⟨D1, e1, l1', c1, H1, n1'⟩ := format_ok (Dsk.fresh 1500) (by rw [hf8.1]; omega) hf8.2
    have hfm := format_any w.heap.size E a (Dsk.fresh 1500) S1 w2 hd1 hE2 (by simp [Dsk.fresh])
    rw [e1] at hfm
    rw [hf8.1] at n1'
    have lo1 : ∀ j, S1 j → w.heap.size ≤ j := by obtain ⟨_, _, _, h⟩ := hd1; exact h.lo
    clear hn9 e1 hf8 hd1
    go_wp2_with fail
    refine hfm.mono ?_
    rintro e w3 (⟨x, _⟩ | ⟨-, s, mb, S2, rfl, hI2, hs2⟩)
    · exact absurd rfl x
    have hb3 := hb12.trans (hs2.below hb12.size lo1)
    simp only at hI2
    have P0 : Live w 1500 s a mb D1 [] [] 1 1 S2 (.slice none 0 0) (.slice none 0 0) 0 (textSum (l.take 0)) w3 := Live.start hI2 hb3 ⟨c1, H1⟩ n1'
    have hl1 := l1'
    clear hfm hs2 lo1 hs1 hI2 c1 H1 n1' l1'
    go_wp2_with fail
    go_loopw [9, 10, 11] (fun v9 v10 v11 wr => ∃ (i : Nat) (D : Dsk) (now synced : List Txt) (k h : Nat) (S : Nat → Prop), i ≤ l.length ∧ v11 = .int .i64 i ∧ D.left = -1 ∧ Live w 1500 s a mb D now synced k h S v9 v10 i (textSum (l.take i)) wr) (fun _ _ v11 _ => l.length - (intOf v11).toNat)
    case atStart => exact ⟨0, D1, [], [], 1, 1, S2, by omega, rfl, hl1, P0⟩
    case round =>
      obtain ⟨i, D, now, synced, k, h, S, hi, rfl, hleft, P⟩ := hrel
      clear P0 hl1
      by_cases hlt : i < l.length
      · obtain ⟨b0, off, rfl, hb0, hcell⟩ := hl (by omega)
        have hltI : (i : Int) < (l.length : Int) := by omega
        obtain ⟨y0, y1, y2⟩ := hcell i hlt
        obtain ⟨hcn, hct⟩ := hL.at i hlt
        have hts := textSum_succ l i hlt
        have htl : textSum (l.take i) ≤ 8000 := Nat.le_trans (textSum_take_le l i) hL.text
        have z0 : wr.cell? ⟨b0, off + i * 3, none⟩ = some (encStr (l[i]).kind) := (P.below.cell (p := ⟨b0, _, none⟩) hb0).trans y0
        have z1 : wr.cell? ⟨b0, off + i * 3 + 1, none⟩ = some (encStr (l[i]).name) := (P.below.cell (p := ⟨b0, _, none⟩) hb0).trans y1
        have z2 : wr.cell? ⟨b0, off + i * 3 + 2, none⟩ = some (encStr (l[i]).text) := (P.below.cell (p := ⟨b0, _, none⟩) hb0).trans y2
        have HTS := Lib.hid hts
        have HY := Lib.hid (And.intro y0 (And.intro y1 y2))
        clear hts hcell y0 y1 y2 hl
        generalize l[i] = ci at *
        generalize textSum (l.take i) = ti at *
        have hfl := P.fn.len
        have hch := change_any _ _ now synced ci (SS s mb S) wr P.tn P.ts P.store.hi (by omega) (by omega) P.fn.rising
        go_wp2_with fail
        refine hch.mono ?_
        rintro e w4 ⟨v1, v2, rfl, hb4, t1, t2⟩
        have hb04 := P.below.trans (hb4.mono P.below.size)
        have hI4 := P.store.step hb4
        have x0 : w4.cell? ⟨b0, off + i * 3, none⟩ = some (encStr ci.kind) := (hb04.cell (p := ⟨b0, _, none⟩) hb0).trans HY.out.1
        have x1 : w4.cell? ⟨b0, off + i * 3 + 1, none⟩ = some (encStr ci.name) := (hb04.cell (p := ⟨b0, _, none⟩) hb0).trans HY.out.2.1
        have x2 : w4.cell? ⟨b0, off + i * 3 + 2, none⟩ = some (encStr ci.text) := (hb04.cell (p := ⟨b0, _, none⟩) hb0).trans HY.out.2.2
        have hpk := P.fn.pack
        have hPl := P.len
        have hPk := P.hk
        have hdo := do_any w.heap.size E s a mb D now k h false S ci w4 hI4 (hE.below hb04) (by omega) (by omega) (by omega) (by omega) P.good.holds.hh (by omega) (by rw [P.good.calm.waits]; simp) P.fn.rising (by omega) (P.fn.small (by omega)) (by omega)
        have hst := do_step D now synced k h i ti ci P.good P.fn P.fs (by omega) (by omega) (by omega) (by omega) (by omega) (by omega)
        have HST := Lib.hid hst
        have hHn : halfN D = (D.now.length - 2) / 2 := rfl
        clear hch hst z0 z1 z2
        generalize doR D now k h false ci = r at *
        go_wp2_with fail
        refine hdo.mono ?_
        rintro e w5 ⟨rfl, S5, hI5, hs5⟩
        have hb05 := hb04.trans (hs5.below hb04.size hI4.lo')
        have t15 := t1.step hs5
        have t25 := t2.step hs5
        clear hdo x0 x1 x2
        rcases HST.out with hst | hst | hst
        · obtain ⟨rc, rD, rL, rk, rh, rd⟩ := r
          obtain ⟨rfl, rfl, rfl, hG, hk', hlen', hleft'⟩ := hst
          simp only at *
          have hP5 : Live w 1500 s a mb rD (chgL now ci) (chgS now synced ci) rk rh S5 v1 v2 (i + 1) (textSum (l.take (i + 1))) w5 := by
            rw [HTS.out]
            exact ⟨hI5, hb05, t15, t25, hG, P.fn.chg ci, P.fn.chgS P.fs, by omega, by omega⟩
          have hl5 := hleft' hleft
          have hq := chgC_le now ci
          have htl2 : textSum (l.take (i + 1)) ≤ 8000 := Nat.le_trans (textSum_take_le l (i + 1)) hL.text
          clear HST HTS hI5 hI4 hG hs5 t1 t2 t15 t25 hb04 hb4 P hleft hleft' hpk hHn
          generalize chgC now ci = q at *
          generalize chgL now ci = now' at *
          generalize chgS now synced ci = synced' at *
          have hE5 := hE.below hb05
          have hcq := coded_any w.heap.size E q q w5 hE5 (by omega)
          simp only [decide_true] at hcq
          obtain ⟨ev, hev⟩ : ∃ ev, ev = errv E q := ⟨_, rfl⟩
          rw [← hev] at hcq ⊢
          clear hev
          obtain ⟨A1, c1, rfl⟩ := row_slice hP5.tn.1
          obtain ⟨A2, c2, rfl⟩ := row_slice hP5.ts.1
          go_wp2_with fail
          refine hcq.mono ?_
          rintro e w6 ⟨rfl, hb6⟩
          have hP6 := hP5.below' hb6
          have hF := hP6.fn
          have hhd := holds_any w.heap.size E s a mb rD now' rk rh false S5 _ now' w6 hP6.store (hE.below hP6.below) hP6.tn.1 hF.rising (by have := hF.len; omega) (by have := hF.len; omega) (fun x hx => (hF.small (by omega) x hx).1) true (by simp)
          clear hcq hP5 hF
          go_wp2_with fail
          refine hhd.mono ?_
          rintro e w7 ⟨rfl, hb7⟩
          have hP7 := hP6.below' hb7
          clear hhd hP6
          go_wp2_with fail
          go_round
          case rel => exact ⟨i + 1, rD, now', synced', rk, rh, S5, by omega, by go_num, hl5, hP7⟩
          case measure => simp [intOf]; omega
        · have := hst.size
          exfalso; omega
        · exact absurd hleft hst.left
      · obtain rfl : i = l.length := by omega
        have hkk : ¬ (l.length : Int) < (l.length : Int) := by omega
        have htl : textSum (l.take l.length) ≤ 8000 := by rw [List.take_length]; exact hL.text
        have hnl := P.fn.len
        have hgt := get2_any w.heap.size E s a mb D now k h false S nm wr P.store (hE.below P.below) (by omega)
        clear hl
        have htn := P.tn.1
        generalize textSum (l.take l.length) = ti at *
        obtain ⟨A1, c1, rfl⟩ := row_slice htn
        have hfn := find_neg now nm
        cases hh : hasT now nm with
        | false =>
          rw [show getC now nm = 6 by simp [getC, hh], show getS now nm = [] by simp [getS, hh]] at hgt
          rw [hh] at hfn
          have hfi := fun W hW => find_any (.slice A1 now.length c1) now nm W hW (by omega)
          generalize find now nm = q at *
          have hq : q < 0 := by simpa using hfn
          have hq2 : ¬ 0 ≤ q := by omega
          clear hfn hh
          go_wp2_with fail
          refine hgt.mono ?_
          rintro e w5 ⟨rfl, hb5⟩
          have htn5 := TextsAt.below htn hb5
          clear hgt
          go_wp2_with fail
          refine (hfi _ htn5).mono ?_
          rintro e w6 ⟨rfl, rfl⟩
          have hb05 := P.below.trans (hb5.mono P.below.size)
          have hcd := coded_any w.heap.size E 6 6 w6 (hE.below hb05) (by omega)
          rw [show decide (((6 : Nat) : Int) = 6) = true by decide] at hcd
          obtain ⟨ev, hev⟩ : ∃ ev, ev = errv E 6 := ⟨_, rfl⟩
          rw [← hev] at hcd ⊢
          clear hfi hev htn htn5
          go_wp2_with fail
          refine hcd.mono ?_
          rintro e wX ⟨rfl, hbx⟩
          have hbX := hb5.trans (hbx.mono hb5.size)
          clear hcd
          have P7 := P.below' hbX
          have hcr := crash_any w.heap.size a D S [] (.slice none 0 0) wX P7.store.disk (World.ownsRow_nil _ _ _ _) P7.below.size (fun k hk => by simp [Value.ownBlock] at hk) (by rw [P7.good.calm.waits]; simp)
          clear hbX P
          go_wp2_with fail
          refine hcr.mono ?_
          rintro e w8 ⟨rfl, hm⟩
          obtain ⟨S8, hd8, hs8, hb8⟩ := crash_moves P7.store hm P7.below.size
          have hb08 := P7.below.trans hb8
          have ts8 := ((P7.ts.mono (T' := S) (fun j hj => .inr (.inr hj))).step hs8).1
          have hG := P7.good.crash []
          have hF := P7.fs
          have hop := hG.opens hF (by have := P7.hk; omega) (by omega) (by omega)
          have hlen8 : (Dsk.crash D []).now.length = 1500 := by rw [(P7.good.calm.crash []).1]; exact P7.len
          clear hcr hm
          generalize Dsk.crash D [] = D8 at *
          have hoa := open_any w.heap.size E a D8 S8 w8 hd8 (hE.below hb08) (by omega)
          rw [hop] at hoa
          clear hop P7 hs8
          go_wp2_with fail
          refine hoa.mono ?_
          rintro e w9 ⟨o, rfl, hb9, hS9⟩
          obtain ⟨mb9, hI9, hs9⟩ := hS9.store hd8 hb9 hb08.size
          have hb09 := hb08.trans (hb9.mono hb08.size)
          have ts9 := TextsAt.below ts8 hb9
          have hhd := holds_any w.heap.size E o a mb9 D8 synced k h false S8 _ synced w9 hI9 (hE.below hb09) ts9 hF.rising (by have := hF.len; omega) (by have := hF.len; omega) (fun x hx => (hF.small (by omega) x hx).1) true (by simp)
          obtain ⟨A2, c2, rfl⟩ := row_slice ts9
          clear hoa hS9 hF ts8 ts9
          go_wp2_with fail
          refine hhd.mono ?_
          rintro e w10 ⟨rfl, hb10⟩
          clear hhd
          go_wp2_with fail
          go_ret
          exact ⟨rfl, hb09.trans (hb10.mono hb09.size)⟩
        | true =>
          obtain ⟨j, hj, e1, e2, e3⟩ := find_pos now nm hh
          rw [show getC now nm = 0 by simp [getC, hh], show getS now nm = (now[j]).2 by simp [getS, hh, e3]] at hgt
          have hfi := fun W hW => find_any (.slice A1 now.length c1) now nm W hW (by omega)
          rw [e1] at hfi
          obtain ⟨g, c', hg, -, hgl, -⟩ := row_form htn (by omega)
          simp only [Value.slice.injEq, true_and] at hg
          obtain ⟨rfl, -⟩ := hg
          have z1 : wr.cell? ⟨g, j * 2 + 1, none⟩ = some (encStr (now[j]).2) := by rw [htn.cellAt _ (by omega)]; exact (tcells_at now j hj).2
          have hev : errv E 0 = .nilIface := rfl
          rw [hev] at hgt
          have hjI : ¬ (j : Int) < 0 := by omega
          have hjI2 : (j : Int) < (now.length : Int) := by omega
          clear hfn hh e1 e2 e3 hev
          generalize (now[j]).2 = tx at *
          go_wp2_with fail
          refine hgt.mono ?_
          rintro e w5 ⟨rfl, hb5⟩
          have htn5 := TextsAt.below htn hb5
          clear hgt
          go_wp2_with fail
          refine (hfi _ htn5).mono ?_
          rintro e wX ⟨rfl, rfl⟩
          have y1 : wX.cell? ⟨g, j * 2 + 1, none⟩ = some (encStr tx) := (hb5.cell (p := ⟨g, _, none⟩) hgl).trans z1
          have hbX := hb5
          clear hfi htn htn5 z1
          have P7 := P.below' hbX
          have hcr := crash_any w.heap.size a D S [] (.slice none 0 0) wX P7.store.disk (World.ownsRow_nil _ _ _ _) P7.below.size (fun k hk => by simp [Value.ownBlock] at hk) (by rw [P7.good.calm.waits]; simp)
          clear hbX P
          go_wp2_with fail
          refine hcr.mono ?_
          rintro e w8 ⟨rfl, hm⟩
          obtain ⟨S8, hd8, hs8, hb8⟩ := crash_moves P7.store hm P7.below.size
          have hb08 := P7.below.trans hb8
          have ts8 := ((P7.ts.mono (T' := S) (fun j hj => .inr (.inr hj))).step hs8).1
          have hG := P7.good.crash []
          have hF := P7.fs
          have hop := hG.opens hF (by have := P7.hk; omega) (by omega) (by omega)
          have hlen8 : (Dsk.crash D []).now.length = 1500 := by rw [(P7.good.calm.crash []).1]; exact P7.len
          clear hcr hm
          generalize Dsk.crash D [] = D8 at *
          have hoa := open_any w.heap.size E a D8 S8 w8 hd8 (hE.below hb08) (by omega)
          rw [hop] at hoa
          clear hop P7 hs8
          go_wp2_with fail
          refine hoa.mono ?_
          rintro e w9 ⟨o, rfl, hb9, hS9⟩
          obtain ⟨mb9, hI9, hs9⟩ := hS9.store hd8 hb9 hb08.size
          have hb09 := hb08.trans (hb9.mono hb08.size)
          have ts9 := TextsAt.below ts8 hb9
          have hhd := holds_any w.heap.size E o a mb9 D8 synced k h false S8 _ synced w9 hI9 (hE.below hb09) ts9 hF.rising (by have := hF.len; omega) (by have := hF.len; omega) (fun x hx => (hF.small (by omega) x hx).1) true (by simp)
          obtain ⟨A2, c2, rfl⟩ := row_slice ts9
          clear hoa hS9 hF ts8 ts9
          go_wp2_with fail
          refine hhd.mono ?_
          rintro e w10 ⟨rfl, hb10⟩
          clear hhd
          go_wp2_with fail
          go_ret
          exact ⟨rfl, hb09.trans (hb10.mono hb09.size)⟩
end Go.Proofs.YtokfddlknhijbaaGreatDoor
