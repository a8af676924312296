/- StoreFull: the walk. -/
import Derived.Test.YtokfddlknhijbaaGreatDoorLaw7
import Derived.Test.YtokfddlknhijbaaGreatDoorCoded
import Derived.Outline
namespace Go.Proofs.YtokfddlknhijbaaGreatDoor
open Go Go.RowKit Go.Maps
/-- A store just formatted. -/
theorem Live.start {w wr : World} {N s a mb : Nat} {D : Dsk} {S : Nat → Prop} (hI : StoreIn w.heap.size wr s a mb D [] 1 1 false S) (hb : Below w.heap.size w wr) (hG : Good D [] 1 1) (hN : D.now.length = N) :
    Live w N s a mb D [] [] 1 1 S (.slice none 0 0) (.slice none 0 0) 0 0 wr :=
  ⟨hI, hb, Txs.nil _ _, Txs.nil _ _, hG, Fit.nil, Fit.nil, by omega, hN⟩
theorem Live.below' {w wr w' : World} {N s a mb : Nat} {D : Dsk} {now synced : List Txt} {k h : Nat} {S : Nat → Prop} {vn vs : Value} {n t : Nat} (P : Live w N s a mb D now synced k h S vn vs n t wr) (hb : Below wr.heap.size wr w') : Live w N s a mb D now synced k h S vn vs n t w' :=
  ⟨P.store.step hb, P.below.trans (hb.mono P.below.size), P.tn.below hb, P.ts.below hb, P.good, P.fn, P.fs, P.hk, P.len⟩
set_option maxHeartbeats 4000000 in
set_option maxRecDepth 100000 in
theorem full_any (B : Nat) (E : Nat → Addr) (w : World) (hE : Env B E w) (n : Nat) (A : Option Addr) (c : Nat) (l : List Chg) (hl : ChgsAt w.heap.size w A l) (hll : l.length ≤ 140737488355328) (ht : ∀ c ∈ l, c.text.length ≤ 140737488355328) (hnm : ∀ c ∈ l, c.name.length ≤ 140737488355328) (h1 : 8 ≤ n) (h4 : n ≤ 400) :
    Calls Tryz.prog 4 #[.int .i64 n, .slice A l.length c] w (HoldPost w) := by
  have hE := hE.top
  have hho := hold_any _ E w hE
  have n0 : ¬ (n : Int) < 1 := by omega
  have n1 : ¬ (400 : Int) < (n : Int) := by omega
  have n8 : ¬ (n : Int) < 8 := by omega
  go_enter Tryz.func4, Tryz.ntmps4
  go_wp2_with fail
  refine hho.mono ?_
  rintro e w1 ⟨rfl, hb1⟩
  have hli := light_any w.heap.size A c l w1 (hl.below hb1) hll ht hnm
  clear hho ht hnm
  go_wp2_with fail
  refine hli.mono ?_
  rintro e w2 ⟨b, rfl, hlt, rfl⟩
  clear hli
  cases b with
  | false =>
    go_wp2_with fail
    go_ret
    exact ⟨rfl, hb1⟩
  | true =>
    have hL := hlt rfl
    have h60 := hL.len
    have hn9 := new_any w.heap.size n w1 hb1.size (by omega) (by omega)
    clear hlt
    go_wp2_with fail
    refine hn9.mono ?_
    rintro e w2 ⟨a, S1, rfl, hd1, hs1⟩
    have hb2 : Below w.heap.size w1 w2 := hs1.below hb1.size (fun k hk => absurd hk (fun h => h))
    have hb12 := hb1.trans hb2
    have hE2 := hE.below hb12
    have hf8 := fresh_len n
    obtain ⟨D1, e1, l1', c1, H1, n1'⟩ := format_ok (Dsk.fresh n) (by rw [hf8.1]; omega) hf8.2
    have hfm := format_any w.heap.size E a (Dsk.fresh n) S1 w2 hd1 hE2 (by simp [Dsk.fresh])
    rw [e1] at hfm
    rw [hf8.1] at n1'
    have lo1 : ∀ j, S1 j → w.heap.size ≤ j := by obtain ⟨_, _, _, h⟩ := hd1; exact h.lo
    clear hn9 e1 hf8 hd1
    go_wp2_with fail
    refine hfm.mono ?_
    rintro e w3 (⟨x, _⟩ | ⟨-, s, mb, S2, rfl, hI2, hs2⟩)
    · exact absurd rfl x
    have hb3 := hb12.trans (hs2.below hb12.size lo1)
    simp only at hI2
    have P0 : Live w n s a mb D1 [] [] 1 1 S2 (.slice none 0 0) (.slice none 0 0) 0 (textSum (l.take 0)) w3 := Live.start hI2 hb3 ⟨c1, H1⟩ n1'
    have hl1 := l1'
    clear hfm hs2 lo1 hs1 hI2 c1 H1 n1' l1'
    go_wp2_with fail
    go_loopw [9, 10, 11] (fun v9 v10 v11 wr => ∃ (i : Nat) (D : Dsk) (now synced : List Txt) (k h : Nat) (S : Nat → Prop), i ≤ l.length ∧ v11 = .int .i64 i ∧ D.left = -1 ∧ Live w n s a mb D now synced k h S v9 v10 i (textSum (l.take i)) wr) (fun _ _ v11 _ => l.length - (intOf v11).toNat)
    case atStart => exact ⟨0, D1, [], [], 1, 1, S2, by omega, rfl, hl1, P0⟩
    case round =>
      obtain ⟨i, D, now, synced, k, h, S, hi, rfl, hleft, P⟩ := hrel
      clear P0 hl1
      by_cases hlt : i < l.length
      · obtain ⟨b0, off, rfl, hb0, hcell⟩ := hl (by omega)
        have hltI : (i : Int) < (l.length : Int) := by omega
        obtain ⟨y0, y1, y2⟩ := hcell i hlt
        obtain ⟨hcn, hct⟩ := hL.at i hlt
        have hts := textSum_succ l i hlt
        have htl : textSum (l.take i) ≤ 8000 := Nat.le_trans (textSum_take_le l i) hL.text
        have z0 : wr.cell? ⟨b0, off + i * 3, none⟩ = some (encStr (l[i]).kind) := (P.below.cell (p := ⟨b0, _, none⟩) hb0).trans y0
        have z1 : wr.cell? ⟨b0, off + i * 3 + 1, none⟩ = some (encStr (l[i]).name) := (P.below.cell (p := ⟨b0, _, none⟩) hb0).trans y1
        have z2 : wr.cell? ⟨b0, off + i * 3 + 2, none⟩ = some (encStr (l[i]).text) := (P.below.cell (p := ⟨b0, _, none⟩) hb0).trans y2
        have HTS := Lib.hid hts
        have HY := Lib.hid (And.intro y0 (And.intro y1 y2))
        clear hts hcell y0 y1 y2 hl
        generalize l[i] = ci at *
        generalize textSum (l.take i) = ti at *
        have hfl := P.fn.len
        have hch := change_any _ _ now synced ci (SS s mb S) wr P.tn P.ts P.store.hi (by omega) (by omega) P.fn.rising
        go_wp2_with fail
        refine hch.mono ?_
        rintro e w4 ⟨v1, v2, rfl, hb4, t1, t2⟩
        have hb04 := P.below.trans (hb4.mono P.below.size)
        have hI4 := P.store.step hb4
        have x0 : w4.cell? ⟨b0, off + i * 3, none⟩ = some (encStr ci.kind) := (hb04.cell (p := ⟨b0, _, none⟩) hb0).trans HY.out.1
        have x1 : w4.cell? ⟨b0, off + i * 3 + 1, none⟩ = some (encStr ci.name) := (hb04.cell (p := ⟨b0, _, none⟩) hb0).trans HY.out.2.1
        have x2 : w4.cell? ⟨b0, off + i * 3 + 2, none⟩ = some (encStr ci.text) := (hb04.cell (p := ⟨b0, _, none⟩) hb0).trans HY.out.2.2
        have hpk := P.fn.pack
        have hPl := P.len
        have hPk := P.hk
        have hdo := do_any w.heap.size E s a mb D now k h false S ci w4 hI4 (hE.below hb04) (by omega) (by omega) (by omega) (by omega) P.good.holds.hh (by omega) (by rw [P.good.calm.waits]; simp) P.fn.rising (by omega) (P.fn.small (by omega)) (by omega)
        have hst := do_step D now synced k h i ti ci P.good P.fn P.fs (by omega) (by omega) (by omega) (by omega) (by omega) (by omega)
        have HST := Lib.hid hst
        clear hch hst z0 z1 z2
        generalize doR D now k h false ci = r at *
        go_wp2_with fail
        refine hdo.mono ?_
        rintro e w5 ⟨rfl, S5, hI5, hs5⟩
        have hb05 := hb04.trans (hs5.below hb04.size hI4.lo')
        have t15 := t1.step hs5
        have t25 := t2.step hs5
        clear hdo x0 x1 x2
        rcases HST.out with hst | hst | hst
        · obtain ⟨rc, rD, rL, rk, rh, rd⟩ := r
          obtain ⟨rfl, rfl, rfl, hG, hk', hlen', hleft'⟩ := hst
          simp only at *
          have hP5 : Live w n s a mb rD (chgL now ci) (chgS now synced ci) rk rh S5 v1 v2 (i + 1) (textSum (l.take (i + 1))) w5 := by
            rw [HTS.out]
            exact ⟨hI5, hb05, t15, t25, hG, P.fn.chg ci, P.fn.chgS P.fs, by omega, by omega⟩
          have hl5 := hleft' hleft
          have hq := chgC_le now ci
          clear HST HTS hI5 hI4 hG hs5 t1 t2 t15 t25 hb04 hb4 P hleft hleft' hpk
          generalize chgC now ci = q at *
          generalize chgL now ci = now' at *
          generalize chgS now synced ci = synced' at *
          have hE5 := hE.below hb05
          have hcd := coded_any w.heap.size E q 8 w5 hE5 (by omega)
          rw [show decide ((q : Int) = 8) = false by simp; omega] at hcd
          have hcq := fun W hW => coded_any w.heap.size E q q W hW (by omega)
          simp only [decide_true] at hcq
          obtain ⟨ev, hev⟩ : ∃ ev, ev = errv E q := ⟨_, rfl⟩
          rw [← hev] at hcd hcq ⊢
          clear hev
          obtain ⟨A1, c1, rfl⟩ := row_slice hP5.tn.1
          obtain ⟨A2, c2, rfl⟩ := row_slice hP5.ts.1
          go_wp2_with fail
          refine hcd.mono ?_
          rintro e w6 ⟨rfl, hb6⟩
          have hb06 := hb05.trans (hb6.mono hb05.size)
          clear hcd
          go_wp2_with fail
          refine (hcq _ (hE.below hb06)).mono ?_
          rintro e w7 ⟨rfl, hb7⟩
          have hP7 := (hP5.below' hb6).below' hb7
          clear hcq hP5
          go_wp2_with fail
          go_round
          case rel => exact ⟨i + 1, rD, now', synced', rk, rh, S5, by omega, by go_num, hl5, hP7⟩
          case measure => simp [intOf]; omega
        · obtain ⟨hkind, hsize, rfl⟩ := hst
          simp only at *
          have hP5 : Live w n s a mb D now synced k h S5 u9 u10 (i + 1) (textSum (l.take (i + 1))) w5 := by
            rw [HTS.out]
            exact ⟨hI5, hb05, ((P.tn.below hb4).step hs5), ((P.ts.below hb4).step hs5), P.good, P.fn.mono (by omega) (by omega), P.fs.mono (by omega) (by omega), by omega, hPl⟩
          have hfs := full_size P.fn (by omega) hsize
          have hE5 := hE.below hb05
          have hcd := coded_any w.heap.size E 8 8 w5 hE5 (by omega)
          rw [show decide (((8 : Nat) : Int) = 8) = true by decide] at hcd
          have w0 := (hb05.cell (p := ⟨b0, off + i * 3, none⟩) hb0).trans HY.out.1
          rw [hkind] at w0
          have hsz0 : sizeOf0 now ≤ 32 * 60 + 8000 := by
            have := P.fn.len
            have e : ∀ L : List Txt, sizeOf0 L = 32 * L.length + txtSum L := by
              intro L; induction L with
              | nil => rfl
              | cons x r ih => simp only [sizeOf0, txtSum, List.map_cons, List.sum_cons, List.length_cons] at *; omega
            have := P.fn.text
            rw [e]; omega
          have hP60 := P.fn.len
          have hr := P.fn.rising
          have hsm := P.fn.small (by omega)
          clear HST HTS hI5 hI4 hs5 t1 t2 t15 t25 hb04 hb4 P hpk
          generalize errv E 8 = ev at *
          obtain ⟨A1, c1, rfl⟩ := row_slice hP5.tn.1
          obtain ⟨A2, c2, rfl⟩ := row_slice hP5.ts.1
          have k3 : (kSync == [115, 121, 110, 99]) = true := rfl
          go_wp2_with fail
          refine hcd.mono ?_
          rintro e w6 ⟨rfl, hb6⟩
          have w06 := (hb6.cell (p := ⟨b0, off + i * 3, none⟩) (Nat.lt_of_lt_of_le hb0 hb05.size)).trans w0
          have hP6 := hP5.below' hb6
          have hsz := size_any _ now w6 hP6.tn.1 (by omega) (by omega)
          have hq1 : ¬ (3 * ((64 + sizeOf0 now : Nat) : Int) ≤ (n : Int) * 64) := by rw [hPl] at hfs; omega
          have hq2 : 64 + sizeOf0 now ≤ 100000 := by omega
          clear hcd w0 hsz0 hfs
          generalize 64 + sizeOf0 now = q at *
          have hho := holds_any w.heap.size E s a mb D now k h false S5 _ now w6 hP6.store (hE.below hP6.below) hP6.tn.1 hr (by omega) (by omega) (fun x hx => (hsm x hx).1) true (by simp)
          go_wp2_with fail
          refine hsz.mono ?_
          rintro e w7 ⟨rfl, rfl⟩
          clear hsz
          go_wp2_with fail
          refine hho.mono ?_
          rintro e w8 ⟨rfl, hb8⟩
          have hP8 := hP6.below' hb8
          clear hho
          go_wp2_with fail
          go_round
          case rel => exact ⟨i + 1, D, now, synced, k, h, S5, by omega, by go_num, hleft, hP8⟩
          case measure => simp [intOf]; omega
        · exact absurd hleft hst.left
      · obtain rfl : i = l.length := by omega
        have hkk : ¬ (l.length : Int) < (l.length : Int) := by omega
        have htl : textSum (l.take l.length) ≤ 8000 := by rw [List.take_length]; exact hL.text
        have hop := P.good.opens P.fs (by have := P.hk; omega) (by omega) (by omega)
        have hoa := open_any w.heap.size E a D S wr P.store.disk (hE.below P.below) (by have := P.len; omega)
        rw [hop] at hoa
        clear hl hop
        go_wp2_with fail
        refine hoa.mono ?_
        rintro e w5 ⟨o, rfl, hb5, hS5⟩
        obtain ⟨mb5, hI5, hs5⟩ := hS5.store P.store.disk hb5 P.below.size
        have hb05 := P.below.trans (hb5.mono P.below.size)
        have hts5 := (P.ts.below hb5).1
        have hF := P.fs
        have hho := holds_any w.heap.size E o a mb5 D synced k h false S _ synced w5 hI5 (hE.below hb05) hts5 hF.rising (by have := hF.len; omega) (by have := hF.len; omega) (fun x hx => (hF.small (by omega) x hx).1) true (by simp)
        obtain ⟨A2, c2, rfl⟩ := row_slice hts5
        clear hoa hS5 P hF
        go_wp2_with fail
        refine hho.mono ?_
        rintro e w6 ⟨rfl, hb6⟩
        clear hho
        go_wp2_with fail
        go_ret
        exact ⟨rfl, hb05.trans (hb6.mono hb05.size)⟩
end Go.Proofs.YtokfddlknhijbaaGreatDoor
