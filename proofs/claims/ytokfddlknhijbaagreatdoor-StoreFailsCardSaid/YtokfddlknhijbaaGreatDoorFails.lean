/- StoreFails: the walk. -/
import Derived.Test.YtokfddlknhijbaaGreatDoorLost
namespace Go.Proofs.YtokfddlknhijbaaGreatDoor
open Go Go.RowKit Go.Maps
set_option maxHeartbeats 8000000 in
set_option maxRecDepth 100000 in
theorem fails_any (B : Nat) (E : Nat → Addr) (w : World) (hE : Env B E w) (A : Option Addr) (c : Nat) (l : List Chg) (n : Nat) (A2 : Option Addr) (c2 : Nat) (keep : List Bool) (A3 : Option Addr) (c3 : Nat) (m : List Chg)
    (hl : ChgsAt w.heap.size w A l) (hll : l.length ≤ 140737488355328) (ht : ∀ c ∈ l, c.text.length ≤ 140737488355328) (hnm : ∀ c ∈ l, c.name.length ≤ 140737488355328)
    (hk : BoolsAt w.heap.size w A2 keep) (hkl : keep.length ≤ 140737488355328)
    (hm : ChgsAt w.heap.size w A3 m) (hml : m.length ≤ 140737488355328) (hmt : ∀ c ∈ m, c.text.length ≤ 140737488355328) (hmn : ∀ c ∈ m, c.name.length ≤ 140737488355328) (hn : n ≤ 5000) :
    Calls Tryz.prog 7 #[.slice A l.length c, .int .i64 n, .slice A2 keep.length c2, .slice A3 m.length c3] w (HoldPost w) := by
  have hE := hE.top
  have hho := hold_any _ E w hE
  have n0 : ¬ (n : Int) < 0 := by omega
  have n1 : ¬ (5000 : Int) < (n : Int) := by omega
  go_enter Tryz.func7, Tryz.ntmps7
  go_wp2_with fail
  refine hho.mono ?_
  rintro e w1 ⟨rfl, hb1⟩
  have hli := light_any w.heap.size A c l w1 (hl.below hb1) hll ht hnm
  have hlm := light_any w.heap.size A3 c3 m w1 (hm.below hb1) hml hmt hmn
  clear hho ht hnm hmt hmn
  go_wp2_with fail
  refine hli.mono ?_
  rintro e w2 ⟨b, rfl, hlt, rfl⟩
  clear hli
  cases b with
  | false =>
    go_wp2_with fail
    go_ret
    exact ⟨rfl, hb1⟩
  | true =>
    have hL := hlt rfl
    clear hlt
    go_wp2_with fail
    refine hlm.mono ?_
    rintro e w2 ⟨b, rfl, hlt, rfl⟩
    clear hlm
    cases b with
    | false =>
      go_wp2_with fail
      go_ret
      exact ⟨rfl, hb1⟩
    | true =>
      have hM := hlt rfl
      clear hlt
      by_cases hk2 : (2000 : Int) < (keep.length : Int)
      · go_wp2_with fail
        go_ret
        exact ⟨rfl, hb1⟩
      have h60 := hL.len
      have hm60 := hM.len
      have hn9 := new_any w.heap.size 1500 w1 hb1.size (by omega) (by omega)
      go_wp2_with fail
      refine hn9.mono ?_
      rintro e w2 ⟨a, S1, rfl, hd1, hs1⟩
      have hb2 : Below w.heap.size w1 w2 := hs1.below hb1.size (fun k hk => absurd hk (fun h => h))
      have hb12 := hb1.trans hb2
      have hE2 := hE.below hb12
      have hf8 := fresh_len 1500
      obtain ⟨D1, e1, l1', cc1, H1, n1'⟩ := format_ok (Dsk.fresh 1500) (by rw [hf8.1]; omega) hf8.2
      have hfm := format_any w.heap.size E a (Dsk.fresh 1500) S1 w2 hd1 hE2 (by simp [Dsk.fresh])
      rw [e1] at hfm
      rw [hf8.1] at n1'
      have lo1 : ∀ j, S1 j → w.heap.size ≤ j := by obtain ⟨_, _, _, h⟩ := hd1; exact h.lo
      clear hn9 e1 hf8 hd1
      go_wp2_with fail
      refine hfm.mono ?_
      rintro e w3 (⟨x, _⟩ | ⟨-, s, mb, S2, rfl, hI2, hs2⟩)
      · exact absurd rfl x
      have hb3 := hb12.trans (hs2.below hb12.size lo1)
      simp only at hI2
      have hfa := fail_any w.heap.size E a D1 S2 (n : Int) w3 hI2.disk (hE.below hb3) (by omega) (by omega)
      rw [fail_eq] at hfa
      have hlen2 : ({ D1 with left := (n : Int) } : Dsk).now.length = 1500 := n1'
      have hG2 : Good { D1 with left := (n : Int) } [] 1 1 := Good.left ⟨cc1, H1⟩ n
      clear hfm hs2 lo1 hs1 cc1 H1 n1' l1'
      generalize ({ D1 with left := (n : Int) } : Dsk) = D2 at *
      have hev : errv E 0 = .nilIface := rfl
      rw [hev] at hfa
      clear hev
      go_wp2_with fail
      refine hfa.mono ?_
      rintro e w4 ⟨rfl, hmv⟩
      obtain ⟨S4, hI4, hs4⟩ := hI2.moves hmv
      have hb4 := hb3.trans (hs4.below hb3.size hI2.lo')
      have P0 : Live w 1500 s a mb D2 [] [] 1 1 S4 (.slice none 0 0) (.slice none 0 0) 0 (textSum (l.take 0)) w4 := Live.start hI4 hb4 hG2 hlen2
      clear hfa hmv hI2 hs4 hI4 hG2 hlen2
      go_wp2_with fail
      go_loopw [13, 14, 15, 16, 17] (fun v13 v14 v15 v16 v17 wr => ∃ (i : Nat) (D : Dsk) (now synced : List Txt) (k h : Nat) (S : Nat → Prop), i ≤ l.length ∧ v17 = .int .i64 i ∧
        ((v16 = .bool false ∧ v15 = .slice none 0 0 ∧ Live w 1500 s a mb D now synced k h S v13 v14 i (textSum (l.take i)) wr) ∨ (v16 = .bool true ∧ v15 = v13 ∧ Lost w 1500 s a mb D now synced k h S v13 v14 i (textSum (l.take i)) wr))) (fun _ _ _ _ v17 _ => l.length - (intOf v17).toNat)
      case atStart => exact ⟨0, D2, [], [], 1, 1, S4, by omega, rfl, .inl ⟨rfl, rfl, P0⟩⟩
      case round =>
        obtain ⟨i, D, now, synced, k, h, S, hi, rfl, hmode⟩ := hrel
        clear P0
        by_cases hlt : i < l.length
        · obtain ⟨b0, off, rfl, hb0, hcell⟩ := hl (by omega)
          have hltI : (i : Int) < (l.length : Int) := by omega
          obtain ⟨y0, y1, y2⟩ := hcell i hlt
          obtain ⟨hcn, hct⟩ := hL.at i hlt
          have hts := textSum_succ l i hlt
          have htl : textSum (l.take i) ≤ 8000 := Nat.le_trans (textSum_take_le l i) hL.text
          have HTS := Lib.hid hts
          have HY := Lib.hid (And.intro y0 (And.intro y1 y2))
          clear hts hcell y0 y1 y2 hl
          generalize l[i] = ci at *
          generalize textSum (l.take i) = ti at *
          rcases hmode with ⟨rfl, rfl, P⟩ | ⟨rfl, rfl, P⟩
          · have z0 : wr.cell? ⟨b0, off + i * 3, none⟩ = some (encStr ci.kind) := (P.below.cell (p := ⟨b0, _, none⟩) hb0).trans HY.out.1
            have z1 : wr.cell? ⟨b0, off + i * 3 + 1, none⟩ = some (encStr ci.name) := (P.below.cell (p := ⟨b0, _, none⟩) hb0).trans HY.out.2.1
            have z2 : wr.cell? ⟨b0, off + i * 3 + 2, none⟩ = some (encStr ci.text) := (P.below.cell (p := ⟨b0, _, none⟩) hb0).trans HY.out.2.2
            have hfl := P.fn.len
            have hpk := P.fn.pack
            have hPl := P.len
            have hPk := P.hk
            have hPh := P.good.holds.hh
            have hHn : halfN D = (D.now.length - 2) / 2 := rfl
            have hdo := do_any w.heap.size E s a mb D now k h false S ci wr P.store (hE.below P.below) (by omega) (by omega) (by omega) (by omega) hPh (by omega) (by rw [P.good.calm.waits]; simp) P.fn.rising (by omega) (P.fn.small (by omega)) (by omega)
            have hst := do_step D now synced k h i ti ci P.good P.fn P.fs (by omega) (by omega) (by omega) (by omega) (by omega) (by omega)
            have HST := Lib.hid hst
            obtain ⟨A1, cc1, rfl⟩ := row_slice P.tn.1
            obtain ⟨A4, cc4, rfl⟩ := row_slice P.ts.1
            clear hst
            generalize doR D now k h false ci = r at *
            go_wp2_with fail
            refine hdo.mono ?_
            rintro e w5 ⟨rfl, S5, hI5, hs5⟩
            have hb05 := P.below.trans (hs5.below P.below.size P.store.lo')
            have tn5 := P.tn.step hs5
            have ts5 := P.ts.step hs5
            clear hdo z0 z1 z2
            rcases HST.out with hst | hst | hst
            · obtain ⟨rc, rD, rL, rk, rh, rd⟩ := r
              obtain ⟨rfl, rfl, rfl, hG, hk', hlen', hleft'⟩ := hst
              simp only at *
              have hq := chgC_le now ci
              have hcd := coded_any w.heap.size E (chgC now ci) 9 w5 (hE.below hb05) (by omega)
              rw [show decide ((chgC now ci : Int) = 9) = false by simp; omega] at hcd
              have hcq := fun W hW => coded_any w.heap.size E (chgC now ci) (chgC now ci) W hW (by omega)
              simp only [decide_true] at hcq
              have hchg := fun W hW1 hW2 hW3 => change_any (.slice A1 now.length cc1) (.slice A4 synced.length cc4) now synced ci (SS s mb S5) W hW1 hW2 hW3 (by omega) (by omega) P.fn.rising
              have hLP : ∀ (v1 v2 : Value) (W : World), StoreIn w.heap.size W s a mb rD (chgL now ci) rk rh false S5 → Below w.heap.size w W → Txs W v1 (chgL now ci) (SS s mb S5) → Txs W v2 (chgS now synced ci) (SS s mb S5) → Live w 1500 s a mb rD (chgL now ci) (chgS now synced ci) rk rh S5 v1 v2 (i + 1) (textSum (l.take (i + 1))) W := by
                intro v1 v2 W h1 h2 h3 h4
                rw [HTS.out]
                exact ⟨h1, h2, h3, h4, hG, P.fn.chg ci, P.fn.chgS P.fs, by omega, by omega⟩
              have HLP := Lib.hid hLP
              clear HST HTS hG hs5 P hleft' hpk hHn hLP hPh
              have HCH := Lib.hid hchg
              clear hchg
              unfold ChgPost at HCH
              generalize chgC now ci = q at *
              generalize chgL now ci = now' at *
              generalize chgS now synced ci = synced' at *
              obtain ⟨ev, hev⟩ : ∃ ev, ev = errv E q := ⟨_, rfl⟩
              rw [← hev] at hcd hcq ⊢
              clear hev
              go_wp2_with fail
              refine hcd.mono ?_
              rintro e w6 ⟨rfl, hb6⟩
              have hb06 := hb05.trans (hb6.mono hb05.size)
              have hI6 := hI5.step hb6
              have z0 : w6.cell? ⟨b0, off + i * 3, none⟩ = some (encStr ci.kind) := (hb06.cell (p := ⟨b0, _, none⟩) hb0).trans HY.out.1
              have z1 : w6.cell? ⟨b0, off + i * 3 + 1, none⟩ = some (encStr ci.name) := (hb06.cell (p := ⟨b0, _, none⟩) hb0).trans HY.out.2.1
              have z2 : w6.cell? ⟨b0, off + i * 3 + 2, none⟩ = some (encStr ci.text) := (hb06.cell (p := ⟨b0, _, none⟩) hb0).trans HY.out.2.2
              have hch := HCH.out w6 (tn5.below hb6) (ts5.below hb6) hI6.hi
              clear hcd HCH hI5
              go_wp2_with fail
              refine hch.mono ?_
              rintro e w7 ⟨v1, v2, rfl, hb7, t1, t2⟩
              have hb07 := hb06.trans (hb7.mono hb06.size)
              have hI7 := hI6.step hb7
              clear hch z0 z1 z2 hI6
              go_wp2_with fail
              refine (hcq _ (hE.below hb07)).mono ?_
              rintro e w8 ⟨rfl, hb8⟩
              have P8 := HLP.out v1 v2 w8 (hI7.step hb8) (hb07.trans (hb8.mono hb07.size)) (t1.below hb8) (t2.below hb8)
              obtain ⟨A5, cc5, rfl⟩ := row_slice t1.1
              obtain ⟨A6, cc6, rfl⟩ := row_slice t2.1
              clear hcq HLP hI7 t1 t2
              go_wp2_with fail
              go_round
              case rel => exact ⟨i + 1, rD, now', synced', rk, rh, S5, by omega, by go_num, .inl ⟨rfl, rfl, P8⟩⟩
              case measure => simp [intOf]; omega
            · have := hst.size
              exfalso; omega
            · obtain ⟨hkind, hl9, hr9, hlen9, hw9, hbeh⟩ := hst
              obtain ⟨rc, rD, rL, rk, rh, rd⟩ := r
              injection hr9 with e1 e2 e3 e4 e5 e6
              simp only at hI5 hlen9 hw9 hbeh ⊢
              subst e1 e3 e4 e5 e6
              have P5 : Lost w 1500 s a mb rD rL synced rk rh S5 (.slice A1 rL.length cc1) (.slice A4 synced.length cc4) (i + 1) (textSum (l.take (i + 1))) w5 := by
                rw [HTS.out]
                exact ⟨hI5, hb05, tn5, ts5, P.fn.mono (by omega) (by omega), P.fs.mono (by omega) (by omega), by omega, hPh, by omega, hw9, fun keep => by obtain ⟨q1, q2⟩ := hbeh keep; exact ⟨by omega, q2⟩⟩
              have hcd := coded_any w.heap.size E 9 9 w5 (hE.below hb05) (by omega)
              rw [show decide (((9 : Nat) : Int) = 9) = true by decide] at hcd
              have w0 := (hb05.cell (p := ⟨b0, off + i * 3, none⟩) hb0).trans HY.out.1
              rw [hkind] at w0
              have b3 : (kSync == [115, 121, 110, 99]) = true := rfl
              clear HST HTS hI5 hs5 tn5 ts5 P hbeh hpk hHn hl9
              generalize errv E 9 = ev at *
              go_wp2_with fail
              refine hcd.mono ?_
              rintro e w6 ⟨rfl, hb6⟩
              have w06 := (hb6.cell (p := ⟨b0, off + i * 3, none⟩) (Nat.lt_of_lt_of_le hb0 hb05.size)).trans w0
              have P6 := P5.below' hb6
              clear hcd w0 P5
              go_wp2_with fail
              go_round
              case rel => exact ⟨i + 1, rD, rL, synced, rk, rh, S5, by omega, by go_num, .inr ⟨rfl, rfl, P6⟩⟩
              case measure => simp [intOf]; omega
          · have z0 : wr.cell? ⟨b0, off + i * 3, none⟩ = some (encStr ci.kind) := (P.below.cell (p := ⟨b0, _, none⟩) hb0).trans HY.out.1
            have z1 : wr.cell? ⟨b0, off + i * 3 + 1, none⟩ = some (encStr ci.name) := (P.below.cell (p := ⟨b0, _, none⟩) hb0).trans HY.out.2.1
            have z2 : wr.cell? ⟨b0, off + i * 3 + 2, none⟩ = some (encStr ci.text) := (P.below.cell (p := ⟨b0, _, none⟩) hb0).trans HY.out.2.2
            have hfl := P.fn.len
            have hpk := P.fn.pack
            have hPl := P.len
            have hPk := P.hk
            have hPw := P.waits
            have hdo := do_any w.heap.size E s a mb D now k h true S ci wr P.store (hE.below P.below) (by omega) (by omega) (by omega) (by omega) P.hh (by omega) (by omega) P.fn.rising (by omega) (P.fn.small (by omega)) (by omega)
            rw [do_dead] at hdo
            obtain ⟨A1, cc1, rfl⟩ := row_slice P.tn.1
            obtain ⟨A4, cc4, rfl⟩ := row_slice P.ts.1
            have hfin : ∀ w5 S5, StoreIn w.heap.size w5 s a mb D now k h true S5 → Step (SS s mb S) wr (SS s mb S5) w5 → Lost w 1500 s a mb D now synced k h S5 (.slice A1 now.length cc1) (.slice A4 synced.length cc4) (i + 1) (textSum (l.take (i + 1))) w5 := by
              intro w5 S5 hI5 hs5
              rw [HTS.out]
              exact ⟨hI5, P.below.trans (hs5.below P.below.size P.store.lo'), P.tn.step hs5, P.ts.step hs5, P.fn.mono (by omega) (by omega), P.fs.mono (by omega) (by omega), by omega, P.hh, P.len, P.waits, P.behind⟩
            have HFIN := Lib.hid hfin
            clear hfin HTS
            go_wp2_with fail
            refine hdo.mono ?_
            rintro e w5 ⟨rfl, S5, hI5, hs5⟩
            simp only at hI5 ⊢
            have P5 := HFIN.out w5 S5 hI5 hs5
            have w0 := (P5.below.cell (p := ⟨b0, off + i * 3, none⟩) hb0).trans HY.out.1
            clear hdo z0 z1 z2 hs5 hI5 P HFIN
            have hcd := coded_any w.heap.size E 9 9 w5 (hE.below P5.below) (by omega)
            rw [show decide (((9 : Nat) : Int) = 9) = true by decide] at hcd
            unfold deadC
            by_cases k1 : ci.kind = kPut
            · rw [k1] at w0 ⊢
              have b1 : (kPut == [112, 117, 116]) = true := rfl
              simp only [true_or, if_true]
              generalize errv E 9 = ev at *
              go_wp2_with fail
              refine hcd.mono ?_
              rintro e w6 ⟨rfl, hb6⟩
              have P6 := P5.below' hb6
              clear hcd P5
              go_wp2_with fail
              go_round
              case rel => exact ⟨i + 1, D, now, synced, k, h, S5, by omega, by go_num, .inr ⟨rfl, rfl, P6⟩⟩
              case measure => simp [intOf]; omega
            · by_cases k2 : ci.kind = kDrop
              · rw [k2] at w0 ⊢
                have b1 : (kDrop == [112, 117, 116]) = false := rfl
                have b2 : (kDrop == [100, 114, 111, 112]) = true := rfl
                simp only [true_or, or_true, if_true]
                generalize errv E 9 = ev at *
                go_wp2_with fail
                refine hcd.mono ?_
                rintro e w6 ⟨rfl, hb6⟩
                have P6 := P5.below' hb6
                clear hcd P5
                go_wp2_with fail
                go_round
                case rel => exact ⟨i + 1, D, now, synced, k, h, S5, by omega, by go_num, .inr ⟨rfl, rfl, P6⟩⟩
                case measure => simp [intOf]; omega
              · by_cases k3 : ci.kind = kSync
                · rw [k3] at w0 ⊢
                  have b1 : (kSync == [112, 117, 116]) = false := rfl
                  have b2 : (kSync == [100, 114, 111, 112]) = false := rfl
                  have b3 : (kSync == [115, 121, 110, 99]) = true := rfl
                  simp only [or_true, if_true]
                  generalize errv E 9 = ev at *
                  go_wp2_with fail
                  refine hcd.mono ?_
                  rintro e w6 ⟨rfl, hb6⟩
                  have P6 := P5.below' hb6
                  clear hcd P5
                  go_wp2_with fail
                  go_round
                  case rel => exact ⟨i + 1, D, now, synced, k, h, S5, by omega, by go_num, .inr ⟨rfl, rfl, P6⟩⟩
                  case measure => simp [intOf]; omega
                · have b1 : (ci.kind == [112, 117, 116]) = false := beq_lit k1
                  have b2 : (ci.kind == [100, 114, 111, 112]) = false := beq_lit k2
                  have b3 : (ci.kind == [115, 121, 110, 99]) = false := beq_lit k3
                  rw [if_neg (by simp [k1, k2, k3])]
                  have hev : errv E 0 = .nilIface := rfl
                  rw [hev]
                  clear hev k1 k2 k3 hcd
                  go_wp2_with fail
                  go_round
                  case rel => exact ⟨i + 1, D, now, synced, k, h, S5, by omega, by go_num, .inr ⟨rfl, rfl, P5⟩⟩
                  case measure => simp [intOf]; omega
        · obtain rfl : i = l.length := by omega
          have hkk : ¬ (l.length : Int) < (l.length : Int) := by omega
          have htl : textSum (l.take l.length) ≤ 8000 := by rw [List.take_length]; exact hL.text
          clear hl
          rcases hmode with ⟨rfl, rfl, P⟩ | ⟨rfl, rfl, P⟩
          · have P9 := P.ended
            obtain ⟨A4, cc4, rfl⟩ := row_slice P.ts.1
            clear P
            obtain ⟨vk, wk, hap, hrow, hbk⟩ := bools_copy (c := c2) (hk.below P9.below) (by omega)
            have hszS : ∀ j, S j → j < wr.heap.size := by obtain ⟨_, _, _, hd⟩ := P9.disk; exact hd.hi
            have hlo := P9.disk.lo
            have hdk := P9.disk.step hbk
            have hbk0 := P9.below.trans (hbk.mono P9.below.size)
            have hcr := crash_any w.heap.size a D S keep vk wk hdk (own_base hrow) hbk0.size (fun k hk hS => by have := own_ge hrow hk; have := hszS k hS; omega) (by have := P9.waits; omega)
            obtain ⟨hlen8, L, k8, h8, hG8, hk8, hLL⟩ := P9.behind keep
            have tsk := P9.ts.below hbk
            have txk := P9.tx.below hbk
            have hF8 : Fit L l.length (textSum (l.take l.length)) := by
              rcases hLL with e | e
              · rw [e]; exact P9.fs
              · rw [e]; exact P9.fx
            have hFs := P9.fs
            have hFx := P9.fx
            have hl8 : (Dsk.crash D keep).left = -1 := rfl
            clear hrow hszS hbk P9
            go_wp2_with (at_builtin; refine wpList_append_run rfl _ _ 49 rfl _ _ rfl rfl hap ?_)
            clear hap
            go_wp2_with fail
            refine hcr.mono ?_
            rintro e w8 ⟨rfl, S8, hd8, hs8⟩
            have hb8 := hs8.below hbk0.size hlo
            have hb08 := hbk0.trans hb8
            have ts8 := tsk.step hs8
            have tx8 := txk.step hs8
            clear hcr tsk txk hs8 hdk hlo hbk0
            generalize Dsk.crash D keep = D8 at *
            have hop := hG8.opens hF8 (by omega) (by omega) (by omega)
            have hoa := open_any w.heap.size E a D8 S8 w8 hd8 (hE.below hb08) (by omega)
            rw [hop] at hoa
            clear hop
            go_wp2_with fail
            refine hoa.mono ?_
            rintro e w9 ⟨o, rfl, hb9, hS9⟩
            obtain ⟨mb9, hI9, hs9⟩ := hS9.store hd8 hb9 hb08.size
            have hb09 := hb08.trans (hb9.mono hb08.size)
            have ts9 := ts8.step hs9
            have tx9 := tx8.step hs9
            have hl60 := hF8.len
            have hhd := holds_any w.heap.size E o a mb9 D8 L k8 h8 false S8 _ synced w9 hI9 (hE.below hb09) ts9.1 hF8.rising (by omega) (by have := hFs.len; omega) (fun x hx => (hFs.small (by omega) x hx).1) (decide (L = synced)) rfl
            clear hoa hS9
            by_cases hLs : L = synced
            · subst hLs
              simp only [decide_true] at hhd
              go_wp2_with fail
              refine hhd.mono ?_
              rintro e w10 ⟨rfl, hb10⟩
              have hI10 := hI9.step hb10
              have PA : Live w 1500 o a mb9 D8 L L k8 h8 S8 _ _ (61 + 0) (8000 + textSum (m.take 0)) w10 :=
                ⟨hI10, hb09.trans (hb10.mono hb09.size), ts9.below hb10, ts9.below hb10, hG8, hF8.mono (by omega) (by omega), hF8.mono (by omega) (by omega), by omega, hlen8⟩
              clear hhd hs9 hd8 ts8 tx8 ts9 tx9 hI10 hLL hFs hFx
              have hm' := hm
              go_wp2_with fail
              go_loopw [13, 14, 24] (fun v13 v14 v24 wr => ∃ (i : Nat) (D : Dsk) (now synced : List Txt) (k h : Nat) (S : Nat → Prop), i ≤ m.length ∧ v24 = .int .i64 i ∧ D.left = -1 ∧ Live w 1500 o a mb9 D now synced k h S v13 v14 (61 + i) (8000 + textSum (m.take i)) wr) (fun _ _ v24 _ => m.length - (intOf v24).toNat)
              case atStart => exact ⟨0, D8, L, L, k8, h8, S8, by omega, rfl, hl8, PA⟩
              case round =>
                obtain ⟨i, D, now, synced, k, h, S, hi, rfl, hleft, P⟩ := hrel
                clear PA hl8 hG8 hF8 hI9
                by_cases hlt : i < m.length
                · obtain ⟨b0, off, rfl, hb0, hcell⟩ := hm' (by omega)
                  have hltI : (i : Int) < (m.length : Int) := by omega
                  obtain ⟨y0, y1, y2⟩ := hcell i hlt
                  obtain ⟨hcn, hct⟩ := hM.at i hlt
                  have hts := textSum_succ m i hlt
                  have htl : textSum (m.take i) ≤ 8000 := Nat.le_trans (textSum_take_le m i) hM.text
                  have z0 : wr.cell? ⟨b0, off + i * 3, none⟩ = some (encStr (m[i]).kind) := (P.below.cell (p := ⟨b0, _, none⟩) hb0).trans y0
                  have z1 : wr.cell? ⟨b0, off + i * 3 + 1, none⟩ = some (encStr (m[i]).name) := (P.below.cell (p := ⟨b0, _, none⟩) hb0).trans y1
                  have z2 : wr.cell? ⟨b0, off + i * 3 + 2, none⟩ = some (encStr (m[i]).text) := (P.below.cell (p := ⟨b0, _, none⟩) hb0).trans y2
                  have HTS := Lib.hid hts
                  have HY := Lib.hid (And.intro y0 (And.intro y1 y2))
                  clear hts hcell y0 y1 y2 hm hm'
                  generalize m[i] = ci at *
                  generalize textSum (m.take i) = ti at *
                  have hfl := P.fn.len
                  have hch := change_any _ _ now synced ci (SS o mb9 S) wr P.tn P.ts P.store.hi (by omega) (by omega) P.fn.rising
                  go_wp2_with fail
                  refine hch.mono ?_
                  rintro e w4 ⟨v1, v2, rfl, hb4, t1, t2⟩
                  have hb04 := P.below.trans (hb4.mono P.below.size)
                  have hI4 := P.store.step hb4
                  have x0 : w4.cell? ⟨b0, off + i * 3, none⟩ = some (encStr ci.kind) := (hb04.cell (p := ⟨b0, _, none⟩) hb0).trans HY.out.1
                  have x1 : w4.cell? ⟨b0, off + i * 3 + 1, none⟩ = some (encStr ci.name) := (hb04.cell (p := ⟨b0, _, none⟩) hb0).trans HY.out.2.1
                  have x2 : w4.cell? ⟨b0, off + i * 3 + 2, none⟩ = some (encStr ci.text) := (hb04.cell (p := ⟨b0, _, none⟩) hb0).trans HY.out.2.2
                  have hpk := P.fn.pack
                  have hPl := P.len
                  have hPk := P.hk
                  have hdo := do_any w.heap.size E o a mb9 D now k h false S ci w4 hI4 (hE.below hb04) (by omega) (by omega) (by omega) (by omega) P.good.holds.hh (by omega) (by rw [P.good.calm.waits]; simp) P.fn.rising (by omega) (P.fn.small (by omega)) (by omega)
                  have hst := do_step D now synced k h (61 + i) (8000 + ti) ci P.good P.fn P.fs (by omega) (by omega) (by omega) (by omega) (by omega) (by omega)
                  have HST := Lib.hid hst
                  have hHn : halfN D = (D.now.length - 2) / 2 := rfl
                  clear hch hst z0 z1 z2
                  generalize doR D now k h false ci = r at *
                  go_wp2_with fail
                  refine hdo.mono ?_
                  rintro e w5 ⟨rfl, S5, hI5, hs5⟩
                  have hb05 := hb04.trans (hs5.below hb04.size hI4.lo')
                  have t15 := t1.step hs5
                  have t25 := t2.step hs5
                  clear hdo x0 x1 x2
                  rcases HST.out with hst | hst | hst
                  · obtain ⟨rc, rD, rL, rk, rh, rd⟩ := r
                    obtain ⟨rfl, rfl, rfl, hG, hk', hlen', hleft'⟩ := hst
                    simp only at *
                    have hP5 : Live w 1500 o a mb9 rD (chgL now ci) (chgS now synced ci) rk rh S5 v1 v2 (61 + (i + 1)) (8000 + textSum (m.take (i + 1))) w5 := by
                      rw [HTS.out, show 61 + (i + 1) = (61 + i) + 1 by omega, show 8000 + (ti + ci.text.length) = (8000 + ti) + ci.text.length by omega]
                      exact ⟨hI5, hb05, t15, t25, hG, P.fn.chg ci, P.fn.chgS P.fs, by omega, by omega⟩
                    have hl5 := hleft' hleft
                    have hq := chgC_le now ci
                    clear HST HTS hI5 hI4 hG hs5 t1 t2 t15 t25 hb04 hb4 P hleft hleft' hpk hHn
                    generalize chgC now ci = q at *
                    generalize chgL now ci = now' at *
                    generalize chgS now synced ci = synced' at *
                    have hcq := coded_any w.heap.size E q q w5 (hE.below hb05) (by omega)
                    simp only [decide_true] at hcq
                    obtain ⟨ev, hev⟩ : ∃ ev, ev = errv E q := ⟨_, rfl⟩
                    rw [← hev] at hcq ⊢
                    clear hev
                    obtain ⟨A5, cc5, rfl⟩ := row_slice hP5.tn.1
                    obtain ⟨A6, cc6, rfl⟩ := row_slice hP5.ts.1
                    go_wp2_with fail
                    refine hcq.mono ?_
                    rintro e w6 ⟨rfl, hb6⟩
                    have hP6 := hP5.below' hb6
                    clear hcq hP5
                    go_wp2_with fail
                    go_round
                    case rel => exact ⟨i + 1, rD, now', synced', rk, rh, S5, by omega, by go_num, hl5, hP6⟩
                    case measure => simp [intOf]; omega
                  · have := hst.size
                    exfalso; omega
                  · exact absurd hleft hst.left
                · obtain rfl : i = m.length := by omega
                  have hkm : ¬ (m.length : Int) < (m.length : Int) := by omega
                  have htl : textSum (m.take m.length) ≤ 8000 := by rw [List.take_length]; exact hM.text
                  have hcr := crash_any w.heap.size a D S [] (.slice none 0 0) wr P.store.disk (World.ownsRow_nil _ _ _ _) P.below.size (fun k hk => by simp [Value.ownBlock] at hk) (by rw [P.good.calm.waits]; simp)
                  clear hm hm'
                  go_wp2_with fail
                  refine hcr.mono ?_
                  rintro e w15 ⟨rfl, hmv⟩
                  obtain ⟨S15, hd15, hs15, hb15⟩ := crash_moves P.store hmv P.below.size
                  have hb015 := P.below.trans hb15
                  have ts15 := ((P.ts.mono (T' := S) (fun j hj => .inr (.inr hj))).step hs15).1
                  have hG := P.good.crash []
                  have hF := P.fs
                  have hop := hG.opens hF (by have := P.hk; omega) (by omega) (by omega)
                  have hlen15 : (Dsk.crash D []).now.length = 1500 := by rw [(P.good.calm.crash []).1]; exact P.len
                  clear hcr hmv
                  generalize Dsk.crash D [] = D15 at *
                  have hoa := open_any w.heap.size E a D15 S15 w15 hd15 (hE.below hb015) (by omega)
                  rw [hop] at hoa
                  clear hop P hs15
                  go_wp2_with fail
                  refine hoa.mono ?_
                  rintro e w16 ⟨o2, rfl, hb16, hS16⟩
                  obtain ⟨mb16, hI16, hs16⟩ := hS16.store hd15 hb16 hb015.size
                  have hb016 := hb015.trans (hb16.mono hb015.size)
                  have ts16 := TextsAt.below ts15 hb16
                  have hhd := holds_any w.heap.size E o2 a mb16 D15 synced k h false S15 _ synced w16 hI16 (hE.below hb016) ts16 hF.rising (by have := hF.len; omega) (by have := hF.len; omega) (fun x hx => (hF.small (by omega) x hx).1) true (by simp)
                  obtain ⟨A7, cc7, rfl⟩ := row_slice ts16
                  clear hoa hS16 hF ts15 ts16
                  go_wp2_with fail
                  refine hhd.mono ?_
                  rintro e w17 ⟨rfl, hb17⟩
                  clear hhd
                  go_wp2_with fail
                  go_ret
                  exact ⟨rfl, hb016.trans (hb17.mono hb016.size)⟩
            · rw [decide_eq_false hLs] at hhd
              have hLx : L = synced := by
                rcases hLL with e | e
                · exact absurd e hLs
                · exact e
              exact absurd hLx hLs
          · have P9 := P.ended
            obtain ⟨A1, cc1, rfl⟩ := row_slice P.tn.1
            obtain ⟨A4, cc4, rfl⟩ := row_slice P.ts.1
            clear P
            obtain ⟨vk, wk, hap, hrow, hbk⟩ := bools_copy (c := c2) (hk.below P9.below) (by omega)
            have hszS : ∀ j, S j → j < wr.heap.size := by obtain ⟨_, _, _, hd⟩ := P9.disk; exact hd.hi
            have hlo := P9.disk.lo
            have hdk := P9.disk.step hbk
            have hbk0 := P9.below.trans (hbk.mono P9.below.size)
            have hcr := crash_any w.heap.size a D S keep vk wk hdk (own_base hrow) hbk0.size (fun k hk hS => by have := own_ge hrow hk; have := hszS k hS; omega) (by have := P9.waits; omega)
            obtain ⟨hlen8, L, k8, h8, hG8, hk8, hLL⟩ := P9.behind keep
            have tsk := P9.ts.below hbk
            have txk := P9.tx.below hbk
            have hF8 : Fit L l.length (textSum (l.take l.length)) := by
              rcases hLL with e | e
              · rw [e]; exact P9.fs
              · rw [e]; exact P9.fx
            have hFs := P9.fs
            have hFx := P9.fx
            have hl8 : (Dsk.crash D keep).left = -1 := rfl
            clear hrow hszS hbk P9
            go_wp2_with (at_builtin; refine wpList_append_run rfl _ _ 49 rfl _ _ rfl rfl hap ?_)
            clear hap
            go_wp2_with fail
            refine hcr.mono ?_
            rintro e w8 ⟨rfl, S8, hd8, hs8⟩
            have hb8 := hs8.below hbk0.size hlo
            have hb08 := hbk0.trans hb8
            have ts8 := tsk.step hs8
            have tx8 := txk.step hs8
            clear hcr tsk txk hs8 hdk hlo hbk0
            generalize Dsk.crash D keep = D8 at *
            have hop := hG8.opens hF8 (by omega) (by omega) (by omega)
            have hoa := open_any w.heap.size E a D8 S8 w8 hd8 (hE.below hb08) (by omega)
            rw [hop] at hoa
            clear hop
            go_wp2_with fail
            refine hoa.mono ?_
            rintro e w9 ⟨o, rfl, hb9, hS9⟩
            obtain ⟨mb9, hI9, hs9⟩ := hS9.store hd8 hb9 hb08.size
            have hb09 := hb08.trans (hb9.mono hb08.size)
            have ts9 := ts8.step hs9
            have tx9 := tx8.step hs9
            have hl60 := hF8.len
            have hhd := holds_any w.heap.size E o a mb9 D8 L k8 h8 false S8 _ synced w9 hI9 (hE.below hb09) ts9.1 hF8.rising (by omega) (by have := hFs.len; omega) (fun x hx => (hFs.small (by omega) x hx).1) (decide (L = synced)) rfl
            clear hoa hS9
            by_cases hLs : L = synced
            · subst hLs
              simp only [decide_true] at hhd
              go_wp2_with fail
              refine hhd.mono ?_
              rintro e w10 ⟨rfl, hb10⟩
              have hI10 := hI9.step hb10
              have PA : Live w 1500 o a mb9 D8 L L k8 h8 S8 _ _ (61 + 0) (8000 + textSum (m.take 0)) w10 :=
                ⟨hI10, hb09.trans (hb10.mono hb09.size), ts9.below hb10, ts9.below hb10, hG8, hF8.mono (by omega) (by omega), hF8.mono (by omega) (by omega), by omega, hlen8⟩
              clear hhd hs9 hd8 ts8 tx8 ts9 tx9 hI10 hLL hFs hFx
              have hm' := hm
              go_wp2_with fail
              go_loopw [13, 14, 24] (fun v13 v14 v24 wr => ∃ (i : Nat) (D : Dsk) (now synced : List Txt) (k h : Nat) (S : Nat → Prop), i ≤ m.length ∧ v24 = .int .i64 i ∧ D.left = -1 ∧ Live w 1500 o a mb9 D now synced k h S v13 v14 (61 + i) (8000 + textSum (m.take i)) wr) (fun _ _ v24 _ => m.length - (intOf v24).toNat)
              case atStart => exact ⟨0, D8, L, L, k8, h8, S8, by omega, rfl, hl8, PA⟩
              case round =>
                obtain ⟨i, D, now, synced, k, h, S, hi, rfl, hleft, P⟩ := hrel
                clear PA hl8 hG8 hF8 hI9
                by_cases hlt : i < m.length
                · obtain ⟨b0, off, rfl, hb0, hcell⟩ := hm' (by omega)
                  have hltI : (i : Int) < (m.length : Int) := by omega
                  obtain ⟨y0, y1, y2⟩ := hcell i hlt
                  obtain ⟨hcn, hct⟩ := hM.at i hlt
                  have hts := textSum_succ m i hlt
                  have htl : textSum (m.take i) ≤ 8000 := Nat.le_trans (textSum_take_le m i) hM.text
                  have z0 : wr.cell? ⟨b0, off + i * 3, none⟩ = some (encStr (m[i]).kind) := (P.below.cell (p := ⟨b0, _, none⟩) hb0).trans y0
                  have z1 : wr.cell? ⟨b0, off + i * 3 + 1, none⟩ = some (encStr (m[i]).name) := (P.below.cell (p := ⟨b0, _, none⟩) hb0).trans y1
                  have z2 : wr.cell? ⟨b0, off + i * 3 + 2, none⟩ = some (encStr (m[i]).text) := (P.below.cell (p := ⟨b0, _, none⟩) hb0).trans y2
                  have HTS := Lib.hid hts
                  have HY := Lib.hid (And.intro y0 (And.intro y1 y2))
                  clear hts hcell y0 y1 y2 hm hm'
                  generalize m[i] = ci at *
                  generalize textSum (m.take i) = ti at *
                  have hfl := P.fn.len
                  have hch := change_any _ _ now synced ci (SS o mb9 S) wr P.tn P.ts P.store.hi (by omega) (by omega) P.fn.rising
                  go_wp2_with fail
                  refine hch.mono ?_
                  rintro e w4 ⟨v1, v2, rfl, hb4, t1, t2⟩
                  have hb04 := P.below.trans (hb4.mono P.below.size)
                  have hI4 := P.store.step hb4
                  have x0 : w4.cell? ⟨b0, off + i * 3, none⟩ = some (encStr ci.kind) := (hb04.cell (p := ⟨b0, _, none⟩) hb0).trans HY.out.1
                  have x1 : w4.cell? ⟨b0, off + i * 3 + 1, none⟩ = some (encStr ci.name) := (hb04.cell (p := ⟨b0, _, none⟩) hb0).trans HY.out.2.1
                  have x2 : w4.cell? ⟨b0, off + i * 3 + 2, none⟩ = some (encStr ci.text) := (hb04.cell (p := ⟨b0, _, none⟩) hb0).trans HY.out.2.2
                  have hpk := P.fn.pack
                  have hPl := P.len
                  have hPk := P.hk
                  have hdo := do_any w.heap.size E o a mb9 D now k h false S ci w4 hI4 (hE.below hb04) (by omega) (by omega) (by omega) (by omega) P.good.holds.hh (by omega) (by rw [P.good.calm.waits]; simp) P.fn.rising (by omega) (P.fn.small (by omega)) (by omega)
                  have hst := do_step D now synced k h (61 + i) (8000 + ti) ci P.good P.fn P.fs (by omega) (by omega) (by omega) (by omega) (by omega) (by omega)
                  have HST := Lib.hid hst
                  have hHn : halfN D = (D.now.length - 2) / 2 := rfl
                  clear hch hst z0 z1 z2
                  generalize doR D now k h false ci = r at *
                  go_wp2_with fail
                  refine hdo.mono ?_
                  rintro e w5 ⟨rfl, S5, hI5, hs5⟩
                  have hb05 := hb04.trans (hs5.below hb04.size hI4.lo')
                  have t15 := t1.step hs5
                  have t25 := t2.step hs5
                  clear hdo x0 x1 x2
                  rcases HST.out with hst | hst | hst
                  · obtain ⟨rc, rD, rL, rk, rh, rd⟩ := r
                    obtain ⟨rfl, rfl, rfl, hG, hk', hlen', hleft'⟩ := hst
                    simp only at *
                    have hP5 : Live w 1500 o a mb9 rD (chgL now ci) (chgS now synced ci) rk rh S5 v1 v2 (61 + (i + 1)) (8000 + textSum (m.take (i + 1))) w5 := by
                      rw [HTS.out, show 61 + (i + 1) = (61 + i) + 1 by omega, show 8000 + (ti + ci.text.length) = (8000 + ti) + ci.text.length by omega]
                      exact ⟨hI5, hb05, t15, t25, hG, P.fn.chg ci, P.fn.chgS P.fs, by omega, by omega⟩
                    have hl5 := hleft' hleft
                    have hq := chgC_le now ci
                    clear HST HTS hI5 hI4 hG hs5 t1 t2 t15 t25 hb04 hb4 P hleft hleft' hpk hHn
                    generalize chgC now ci = q at *
                    generalize chgL now ci = now' at *
                    generalize chgS now synced ci = synced' at *
                    have hcq := coded_any w.heap.size E q q w5 (hE.below hb05) (by omega)
                    simp only [decide_true] at hcq
                    obtain ⟨ev, hev⟩ : ∃ ev, ev = errv E q := ⟨_, rfl⟩
                    rw [← hev] at hcq ⊢
                    clear hev
                    obtain ⟨A5, cc5, rfl⟩ := row_slice hP5.tn.1
                    obtain ⟨A6, cc6, rfl⟩ := row_slice hP5.ts.1
                    go_wp2_with fail
                    refine hcq.mono ?_
                    rintro e w6 ⟨rfl, hb6⟩
                    have hP6 := hP5.below' hb6
                    clear hcq hP5
                    go_wp2_with fail
                    go_round
                    case rel => exact ⟨i + 1, rD, now', synced', rk, rh, S5, by omega, by go_num, hl5, hP6⟩
                    case measure => simp [intOf]; omega
                  · have := hst.size
                    exfalso; omega
                  · exact absurd hleft hst.left
                · obtain rfl : i = m.length := by omega
                  have hkm : ¬ (m.length : Int) < (m.length : Int) := by omega
                  have htl : textSum (m.take m.length) ≤ 8000 := by rw [List.take_length]; exact hM.text
                  have hcr := crash_any w.heap.size a D S [] (.slice none 0 0) wr P.store.disk (World.ownsRow_nil _ _ _ _) P.below.size (fun k hk => by simp [Value.ownBlock] at hk) (by rw [P.good.calm.waits]; simp)
                  clear hm hm'
                  go_wp2_with fail
                  refine hcr.mono ?_
                  rintro e w15 ⟨rfl, hmv⟩
                  obtain ⟨S15, hd15, hs15, hb15⟩ := crash_moves P.store hmv P.below.size
                  have hb015 := P.below.trans hb15
                  have ts15 := ((P.ts.mono (T' := S) (fun j hj => .inr (.inr hj))).step hs15).1
                  have hG := P.good.crash []
                  have hF := P.fs
                  have hop := hG.opens hF (by have := P.hk; omega) (by omega) (by omega)
                  have hlen15 : (Dsk.crash D []).now.length = 1500 := by rw [(P.good.calm.crash []).1]; exact P.len
                  clear hcr hmv
                  generalize Dsk.crash D [] = D15 at *
                  have hoa := open_any w.heap.size E a D15 S15 w15 hd15 (hE.below hb015) (by omega)
                  rw [hop] at hoa
                  clear hop P hs15
                  go_wp2_with fail
                  refine hoa.mono ?_
                  rintro e w16 ⟨o2, rfl, hb16, hS16⟩
                  obtain ⟨mb16, hI16, hs16⟩ := hS16.store hd15 hb16 hb015.size
                  have hb016 := hb015.trans (hb16.mono hb015.size)
                  have ts16 := TextsAt.below ts15 hb16
                  have hhd := holds_any w.heap.size E o2 a mb16 D15 synced k h false S15 _ synced w16 hI16 (hE.below hb016) ts16 hF.rising (by have := hF.len; omega) (by have := hF.len; omega) (fun x hx => (hF.small (by omega) x hx).1) true (by simp)
                  obtain ⟨A7, cc7, rfl⟩ := row_slice ts16
                  clear hoa hS16 hF ts15 ts16
                  go_wp2_with fail
                  refine hhd.mono ?_
                  rintro e w17 ⟨rfl, hb17⟩
                  clear hhd
                  go_wp2_with fail
                  go_ret
                  exact ⟨rfl, hb016.trans (hb17.mono hb016.size)⟩
            · rw [decide_eq_false hLs] at hhd
              have hLx : L = now := by
                rcases hLL with e | e
                · exact absurd e hLs
                · exact e
              subst hLx
              go_wp2_with fail
              refine hhd.mono ?_
              rintro e w10 ⟨rfl, hb10⟩
              have hI10 := hI9.step hb10
              have hb010 := hb09.trans (hb10.mono hb09.size)
              have tx10 := tx9.below hb10
              have hhd2 := holds_any w.heap.size E o a mb9 D8 L k8 h8 false S8 _ L w10 hI10 (hE.below hb010) tx10.1 hF8.rising (by omega) (by omega) (fun x hx => (hF8.small (by omega) x hx).1) true (by simp)
              clear hhd
              go_wp2_with fail
              refine hhd2.mono ?_
              rintro e w11 ⟨rfl, hb11⟩
              have hI11 := hI10.step hb11
              have PA : Live w 1500 o a mb9 D8 L L k8 h8 S8 _ _ (61 + 0) (8000 + textSum (m.take 0)) w11 :=
                ⟨hI11, hb010.trans (hb11.mono hb010.size), tx10.below hb11, tx10.below hb11, hG8, hF8.mono (by omega) (by omega), hF8.mono (by omega) (by omega), by omega, hlen8⟩
              clear hhd2 hs9 hd8 ts8 tx8 ts9 tx9 tx10 hI10 hI11 hLL hFs hFx hLs
              have hm' := hm
              go_wp2_with fail
              go_loopw [13, 14, 24] (fun v13 v14 v24 wr => ∃ (i : Nat) (D : Dsk) (now synced : List Txt) (k h : Nat) (S : Nat → Prop), i ≤ m.length ∧ v24 = .int .i64 i ∧ D.left = -1 ∧ Live w 1500 o a mb9 D now synced k h S v13 v14 (61 + i) (8000 + textSum (m.take i)) wr) (fun _ _ v24 _ => m.length - (intOf v24).toNat)
              case atStart => exact ⟨0, D8, L, L, k8, h8, S8, by omega, rfl, hl8, PA⟩
              case round =>
                obtain ⟨i, D, now, synced, k, h, S, hi, rfl, hleft, P⟩ := hrel
                clear PA hl8 hG8 hF8 hI9
                by_cases hlt : i < m.length
                · obtain ⟨b0, off, rfl, hb0, hcell⟩ := hm' (by omega)
                  have hltI : (i : Int) < (m.length : Int) := by omega
                  obtain ⟨y0, y1, y2⟩ := hcell i hlt
                  obtain ⟨hcn, hct⟩ := hM.at i hlt
                  have hts := textSum_succ m i hlt
                  have htl : textSum (m.take i) ≤ 8000 := Nat.le_trans (textSum_take_le m i) hM.text
                  have z0 : wr.cell? ⟨b0, off + i * 3, none⟩ = some (encStr (m[i]).kind) := (P.below.cell (p := ⟨b0, _, none⟩) hb0).trans y0
                  have z1 : wr.cell? ⟨b0, off + i * 3 + 1, none⟩ = some (encStr (m[i]).name) := (P.below.cell (p := ⟨b0, _, none⟩) hb0).trans y1
                  have z2 : wr.cell? ⟨b0, off + i * 3 + 2, none⟩ = some (encStr (m[i]).text) := (P.below.cell (p := ⟨b0, _, none⟩) hb0).trans y2
                  have HTS := Lib.hid hts
                  have HY := Lib.hid (And.intro y0 (And.intro y1 y2))
                  clear hts hcell y0 y1 y2 hm hm'
                  generalize m[i] = ci at *
                  generalize textSum (m.take i) = ti at *
                  have hfl := P.fn.len
                  have hch := change_any _ _ now synced ci (SS o mb9 S) wr P.tn P.ts P.store.hi (by omega) (by omega) P.fn.rising
                  go_wp2_with fail
                  refine hch.mono ?_
                  rintro e w4 ⟨v1, v2, rfl, hb4, t1, t2⟩
                  have hb04 := P.below.trans (hb4.mono P.below.size)
                  have hI4 := P.store.step hb4
                  have x0 : w4.cell? ⟨b0, off + i * 3, none⟩ = some (encStr ci.kind) := (hb04.cell (p := ⟨b0, _, none⟩) hb0).trans HY.out.1
                  have x1 : w4.cell? ⟨b0, off + i * 3 + 1, none⟩ = some (encStr ci.name) := (hb04.cell (p := ⟨b0, _, none⟩) hb0).trans HY.out.2.1
                  have x2 : w4.cell? ⟨b0, off + i * 3 + 2, none⟩ = some (encStr ci.text) := (hb04.cell (p := ⟨b0, _, none⟩) hb0).trans HY.out.2.2
                  have hpk := P.fn.pack
                  have hPl := P.len
                  have hPk := P.hk
                  have hdo := do_any w.heap.size E o a mb9 D now k h false S ci w4 hI4 (hE.below hb04) (by omega) (by omega) (by omega) (by omega) P.good.holds.hh (by omega) (by rw [P.good.calm.waits]; simp) P.fn.rising (by omega) (P.fn.small (by omega)) (by omega)
                  have hst := do_step D now synced k h (61 + i) (8000 + ti) ci P.good P.fn P.fs (by omega) (by omega) (by omega) (by omega) (by omega) (by omega)
                  have HST := Lib.hid hst
                  have hHn : halfN D = (D.now.length - 2) / 2 := rfl
                  clear hch hst z0 z1 z2
                  generalize doR D now k h false ci = r at *
                  go_wp2_with fail
                  refine hdo.mono ?_
                  rintro e w5 ⟨rfl, S5, hI5, hs5⟩
                  have hb05 := hb04.trans (hs5.below hb04.size hI4.lo')
                  have t15 := t1.step hs5
                  have t25 := t2.step hs5
                  clear hdo x0 x1 x2
                  rcases HST.out with hst | hst | hst
                  · obtain ⟨rc, rD, rL, rk, rh, rd⟩ := r
                    obtain ⟨rfl, rfl, rfl, hG, hk', hlen', hleft'⟩ := hst
                    simp only at *
                    have hP5 : Live w 1500 o a mb9 rD (chgL now ci) (chgS now synced ci) rk rh S5 v1 v2 (61 + (i + 1)) (8000 + textSum (m.take (i + 1))) w5 := by
                      rw [HTS.out, show 61 + (i + 1) = (61 + i) + 1 by omega, show 8000 + (ti + ci.text.length) = (8000 + ti) + ci.text.length by omega]
                      exact ⟨hI5, hb05, t15, t25, hG, P.fn.chg ci, P.fn.chgS P.fs, by omega, by omega⟩
                    have hl5 := hleft' hleft
                    have hq := chgC_le now ci
                    clear HST HTS hI5 hI4 hG hs5 t1 t2 t15 t25 hb04 hb4 P hleft hleft' hpk hHn
                    generalize chgC now ci = q at *
                    generalize chgL now ci = now' at *
                    generalize chgS now synced ci = synced' at *
                    have hcq := coded_any w.heap.size E q q w5 (hE.below hb05) (by omega)
                    simp only [decide_true] at hcq
                    obtain ⟨ev, hev⟩ : ∃ ev, ev = errv E q := ⟨_, rfl⟩
                    rw [← hev] at hcq ⊢
                    clear hev
                    obtain ⟨A5, cc5, rfl⟩ := row_slice hP5.tn.1
                    obtain ⟨A6, cc6, rfl⟩ := row_slice hP5.ts.1
                    go_wp2_with fail
                    refine hcq.mono ?_
                    rintro e w6 ⟨rfl, hb6⟩
                    have hP6 := hP5.below' hb6
                    clear hcq hP5
                    go_wp2_with fail
                    go_round
                    case rel => exact ⟨i + 1, rD, now', synced', rk, rh, S5, by omega, by go_num, hl5, hP6⟩
                    case measure => simp [intOf]; omega
                  · have := hst.size
                    exfalso; omega
                  · exact absurd hleft hst.left
                · obtain rfl : i = m.length := by omega
                  have hkm : ¬ (m.length : Int) < (m.length : Int) := by omega
                  have htl : textSum (m.take m.length) ≤ 8000 := by rw [List.take_length]; exact hM.text
                  have hcr := crash_any w.heap.size a D S [] (.slice none 0 0) wr P.store.disk (World.ownsRow_nil _ _ _ _) P.below.size (fun k hk => by simp [Value.ownBlock] at hk) (by rw [P.good.calm.waits]; simp)
                  clear hm hm'
                  go_wp2_with fail
                  refine hcr.mono ?_
                  rintro e w15 ⟨rfl, hmv⟩
                  obtain ⟨S15, hd15, hs15, hb15⟩ := crash_moves P.store hmv P.below.size
                  have hb015 := P.below.trans hb15
                  have ts15 := ((P.ts.mono (T' := S) (fun j hj => .inr (.inr hj))).step hs15).1
                  have hG := P.good.crash []
                  have hF := P.fs
                  have hop := hG.opens hF (by have := P.hk; omega) (by omega) (by omega)
                  have hlen15 : (Dsk.crash D []).now.length = 1500 := by rw [(P.good.calm.crash []).1]; exact P.len
                  clear hcr hmv
                  generalize Dsk.crash D [] = D15 at *
                  have hoa := open_any w.heap.size E a D15 S15 w15 hd15 (hE.below hb015) (by omega)
                  rw [hop] at hoa
                  clear hop P hs15
                  go_wp2_with fail
                  refine hoa.mono ?_
                  rintro e w16 ⟨o2, rfl, hb16, hS16⟩
                  obtain ⟨mb16, hI16, hs16⟩ := hS16.store hd15 hb16 hb015.size
                  have hb016 := hb015.trans (hb16.mono hb015.size)
                  have ts16 := TextsAt.below ts15 hb16
                  have hhd := holds_any w.heap.size E o2 a mb16 D15 synced k h false S15 _ synced w16 hI16 (hE.below hb016) ts16 hF.rising (by have := hF.len; omega) (by have := hF.len; omega) (fun x hx => (hF.small (by omega) x hx).1) true (by simp)
                  obtain ⟨A7, cc7, rfl⟩ := row_slice ts16
                  clear hoa hS16 hF ts15 ts16
                  go_wp2_with fail
                  refine hhd.mono ?_
                  rintro e w17 ⟨rfl, hb17⟩
                  clear hhd
                  go_wp2_with fail
                  go_ret
                  exact ⟨rfl, hb016.trans (hb17.mono hb016.size)⟩
end Go.Proofs.YtokfddlknhijbaaGreatDoor
