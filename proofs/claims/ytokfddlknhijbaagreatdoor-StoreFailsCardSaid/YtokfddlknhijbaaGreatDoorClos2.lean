/- Sync's inner function. -/
import Derived.Test.YtokfddlknhijbaaGreatDoorClos
namespace Go.Proofs.YtokfddlknhijbaaGreatDoor
open Go Go.RowKit Go.Maps
attribute [local go_sem ↓] Go.wp_at_zero Go.wp_at_succ
theorem wrapI (x : Int) (h0 : 0 ≤ x) (h : x < 4294967296) : IntKind.i64.wrap x = x := by simp [IntKind.wrap, IntKind.bits, IntKind.signed]; omega
def ClosPost (B : Nat) (E : Nat → Addr) (s a mb : Nat) (L : List Txt) (k h : Nat) (dead : Bool) (bp bs ba at' : Nat) (p : Str) (w : World) (S0 : Nat → Prop) (r : Nat × Dsk) (e : Ending) (W : World) : Prop :=
  e = .returned (errv E r.1) ∧ ∃ S, ClosAt B s a mb L k h dead bp bs ba at' p w S0 W r.2 S
theorem drop_up (p : Str) (i : Nat) : (p.drop (64 * i)).drop 64 = p.drop (64 * (i + 1)) := by rw [List.drop_drop]; congr 1
set_option maxHeartbeats 4000000 in
set_option maxRecDepth 100000 in
theorem clos_any (B : Nat) (E : Nat → Addr) (s a mb : Nat) (D : Dsk) (L : List Txt) (k h : Nat) (dead : Bool) (bp bs ba at' : Nat) (p : Str) (w : World) (S : Nat → Prop)
    (H : ClosAt B s a mb L k h dead bp bs ba at' p w S w D S) (hE : Env B E w) (h0 : ∀ j, S j → B ≤ j) (h2 : 2 ≤ D.now.length) (h3 : D.now.length ≤ 4000) (hp : p.length ≤ halfN D * 64) (hat : at' ≤ 1) (hk : k + 1 < 4294967296) (hw : D.waits.length ≤ 900000) :
    Calls Tryz.prog 45 #[.pointer (some ⟨bp, 0, none⟩), .pointer (some ⟨bs, 0, none⟩), .pointer (some ⟨ba, 0, none⟩)] w (ClosPost B E s a mb L k h dead bp bs ba at' p w S (syncD D k at' p)) := by
  generalize hgR : syncD D k at' p = R at *
  unfold syncD at hgR
  have hb4 : halfN D ≤ 2000 := by unfold halfN; omega
  obtain ⟨pp, hpp, hpl, hpn⟩ : ∃ pp : Nat, (at' : Int) * (halfN D : Int) = (pp : Int) ∧ pp ≤ halfN D ∧ at' * halfN D = pp := by
    refine ⟨at' * halfN D, by simp, ?_, rfl⟩
    rcases (by omega : at' = 0 ∨ at' = 1) with rfl | rfl <;> simp
  have w6 : IntKind.i64.wrap ((at' : Int) * (halfN D : Int)) = (pp : Int) := by rw [hpp]; exact wrap64 pp (by omega)
  rw [hpn] at hgR
  have HG := Lib.hid hgR
  have HHV := Lib.hid (show halfN D = (D.now.length - 2) / 2 from rfl)
  generalize halfN D = hv at *
  clear hgR
  have BW := Lib.hid (show ∀ i : Nat, i ≤ 10000 → IntKind.i64.wrap ((i : Int) * 64) = (i : Int) * 64 from fun i hi => by have := wrap64 (i * 64) (by omega); simpa using this)
  have BW1 := Lib.hid (show ∀ i : Nat, i ≤ 10000 → IntKind.i64.wrap (((i : Int) + 1) * 64) = ((i : Int) + 1) * 64 from fun i hi => by have := wrap64 ((i + 1) * 64) (by omega); simpa using this)
  go_enter Tryz.func45, Tryz.ntmps45
  go_wp2_with fail
  go_loopw [4] (fun v4 wr => ∃ (i : Nat) (Di : Dsk) (Si : Nat → Prop), i * 64 ≤ p.length + 63 ∧ v4 = .int .i64 i ∧ ClosAt B s a mb L k h dead bp bs ba at' p w S wr Di Si ∧ Di.now.length = D.now.length ∧ Di.waits.length ≤ D.waits.length + i ∧
    wb (up64 p.length) D (2 + pp) p = wb (up64 p.length - i) Di (2 + pp + i) (p.drop (64 * i))) (fun v4 _ => 10000 - (intOf v4).toNat)
  case atStart => exact ⟨0, D, S, by omega, rfl, H, rfl, by omega, rfl⟩
  case round =>
    obtain ⟨i, Di, Si, hi, rfl, hC, hnow, hwt, hwb⟩ := hrel
    clear H
    obtain ⟨c1, c2, c3, c4, c5⟩ := hC.cells
    have w7 := BW.out i (by omega)
    have w8 := BW1.out i (by omega)
    by_cases hlt : i * 64 < p.length
    · have hlti : (i : Int) * 64 < (p.length : Int) := by omega
      have hHH : ∀ W, DiskAt B W a Di Si → Calls Tryz.prog 44 #[.pointer (some ⟨a, 0, none⟩)] W fun e w' => e = .returned (.int .i64 hv) ∧ w' = W := by
        intro W hD
        have := half_any B a Di Si W hD (by omega) (by omega)
        rw [hnow, ← HHV.out] at this
        exact this
      have HHH := Lib.hid hHH
      obtain ⟨jn, hjn, hj1, hj2, hj3⟩ : ∃ jn : Nat, min (p.length : Int) (((i : Int) + 1) * 64) = (jn : Int) ∧ i * 64 ≤ jn ∧ jn ≤ p.length ∧ (p.drop (i * 64)).take (jn - i * 64) = (p.drop (64 * i)).take 64 := by
        refine ⟨min p.length ((i + 1) * 64), by omega, by omega, by omega, ?_⟩
        rw [Nat.mul_comm i 64]
        rcases Nat.le_total p.length ((i + 1) * 64) with h | h
        · rw [Nat.min_eq_left h, List.take_of_length_le (by simp), List.take_of_length_le (by simp; omega)]
        · rw [Nat.min_eq_right h]; congr 1; omega
      have sl := fun W => slice_run p (i * 64) jn ((i : Int) * 64) (jn : Int) (by simp) rfl hj1 hj2 W
      rw [hj3] at sl
      have hcl : ((p.drop (64 * i)).take 64).length ≤ 64 := by simp; omega
      have hup : up64 p.length - i = (up64 p.length - (i + 1)) + 1 := by unfold up64; omega
      have hne : p.drop (64 * i) ≠ [] := by intro e; have := congrArg List.length e; simp at this; omega
      rw [hup] at hwb
      simp only [wb, if_neg hne] at hwb
      rw [drop_up] at hwb
      have hcast : ((2 + pp + i : Nat) : Int) = 2 + (pp : Int) + (i : Int) := by omega
      rw [hcast] at hwb
      clear hcast
      have HWB := Lib.hid hwb
      clear hwb hHH hup hne
      generalize (p.drop (64 * i)).take 64 = ch at *
      have v1 := wrapI (pp : Int) (by omega) (by omega)
      have v2 := wrapI (2 + (pp : Int)) (by omega) (by omega)
      have v3 := wrapI (2 + (pp : Int) + (i : Int)) (by omega) (by omega)
      have v4 := wrapI ((i : Int) + 1) (by omega) (by omega)
      have hCd := hC.below (Below.drew (Below.refl _ _))
      go_wp2_with fail
      go_region_held3 (fun W => W.cell? ⟨bp, 0, none⟩ = some (.string ⟨p.toArray⟩) ∧ W.cell? ⟨bs, 0, none⟩ = some (.pointer (some ⟨s, 0, none⟩)) ∧ W.cell? ⟨ba, 0, none⟩ = some (.int .i64 at') ∧
          W.cell? ⟨s, 0, none⟩ = some (.pointer (some ⟨a, 0, none⟩)) ∧ W.cell? ⟨s, 2, none⟩ = some (.int .u32 k))
        (exact ClosAt.cells (by assumption))
        ((first
          | (go_at_call 44; refine (HHH.out _ hCd.store.disk).mono ?_; rintro e w' ⟨rfl, rfl⟩)
          | (go_at_call 31; refine (write_any B E a Di Si _ ch _ hCd.store.disk (hCd.env hE h0) (by omega) (by omega) (by omega)).mono ?_; rintro e w' ⟨rfl, hm⟩; obtain ⟨S', hC'⟩ := hCd.moves hm)))
      all_goals (
        have hwn := write_now Di (2 + (pp : Int) + (i : Int)) ch
        have hww := write_waits Di (2 + (pp : Int) + (i : Int)) ch
        have HW := HWB.out
        clear sl hm HHH HWB c1 c2 c3 c4 c5 hCd hC
        generalize Di.write (2 + (pp : Int) + (i : Int)) ch = r at *
        obtain ⟨c, D'⟩ := r
        simp only at hwn hww HW hC'
        by_cases hr : c = 0
        · subst hr
          rw [if_pos rfl] at HW
          have hev : errv E 0 = .nilIface := rfl
          simp only [hev]
          clear hev
          go_wp2_with fail
          go_round
          case rel => exact ⟨i + 1, D', S', by omega, by go_num, hC', by omega, by omega, HW⟩
          case measure => simp [intOf]; omega
        · rw [if_neg hr] at HW
          obtain ⟨q, hq⟩ := errv_ne E c hr
          have hend : ClosPost B E s a mb L k h dead bp bs ba at' p w S R (.returned (errv E c)) w' := by
            have hRe : R = (c, D') := by
              rw [← HG.out, HW]; unfold syncT; simp only [if_neg hr]
            rw [hRe]; exact ⟨rfl, S', hC'⟩
          rw [hq] at hend
          simp only [hq]
          clear hq HW
          go_wp2_with fail
          go_ret
          exact hend)
    · have hnl : ¬ (i : Int) * 64 < (p.length : Int) := by omega
      have hde : p.drop (64 * i) = [] := List.drop_of_length_le (by omega)
      rw [hde] at hwb
      have hw0 : wb (up64 p.length) D (2 + pp) p = (0, Di) := by
        rw [hwb]; cases up64 p.length - i <;> simp [wb]
      have hG := HG.out
      rw [hw0] at hG
      clear hwb hw0 hde HG
      unfold syncT at hG
      simp only [if_true] at hG
      have hf1 := flush_now Di
      have hf2 := flush_waits Di
      have HGG := Lib.hid hG
      clear hG
      go_wp2_with fail
      refine (flush_any B E a Di Si wr hC.store.disk (hC.env hE h0)).mono ?_
      rintro e w3 ⟨rfl, hm⟩
      obtain ⟨S2, hC2⟩ := hC.moves hm
      have hG := HGG.out
      clear hm hC HGG c1 c2 c3 c4 c5
      generalize Di.flush = r at *
      obtain ⟨c, D2⟩ := r
      simp only at hf1 hf2 hG hC2
      by_cases hr : c = 0
      · subst hr
        rw [if_pos rfl] at hG
        have hev : errv E 0 = .nilIface := rfl
        simp only [hev]
        clear hev
        have HGG := Lib.hid hG
        clear hG
        have hA := fun W => head_any (k + 1) at' p.length (crc p) hk (by omega) (by omega) (crc_lt p) W
        have hcr := crc_any p (by omega)
        have hD3 : ∀ W, DiskAt B W a D2 S2 → Env B E W → Calls Tryz.prog 31 #[.pointer (some ⟨a, 0, none⟩), .int .i64 (((k + 1) % 2 : Nat) : Int), encStr (headS (k + 1) at' p.length (crc p))] W (Post (errv E (headW D2 k at' p).1) (Moves B W a S2 (headW D2 k at' p).2)) :=
          fun W hD hE => write_any B E a D2 S2 _ _ W hD hE (by omega) (by simp [headS, hd0, be4_length]) (by omega)
        have hn3 := write_now D2 (((k + 1) % 2 : Nat) : Int) (headS (k + 1) at' p.length (crc p))
        have hHd : headW D2 k at' p = D2.write (((k + 1) % 2 : Nat) : Int) (headS (k + 1) at' p.length (crc p)) := rfl
        have hw3 := write_waits D2 (((k + 1) % 2 : Nat) : Int) (headS (k + 1) at' p.length (crc p))
        rw [← hHd] at hn3 hw3
        clear hHd
        generalize headW D2 k at' p = r3 at *
        generalize headS (k + 1) at' p.length (crc p) = hs at *
        generalize crc p = cp at *
        have hkc : ((k + 1 : Nat) : Int) = (k : Int) + 1 := by omega
        have hki : (((k + 1) % 2 : Nat) : Int) = ((k : Int) + 1) % 2 := by omega
        simp only [hkc] at hA
        rw [hki] at hD3
        have tm : ((k : Int) + 1).tmod 2 = ((k : Int) + 1) % 2 := Int.tmod_eq_emod_of_nonneg (by omega)
        have u1 : IntKind.u32.wrap ((k : Int) + 1) = (k : Int) + 1 := by simp [IntKind.wrap, IntKind.bits, IntKind.signed]; omega
        have u2 : IntKind.u32.wrap (((k : Int) + 1) % 2) = ((k : Int) + 1) % 2 := by simp [IntKind.wrap, IntKind.bits, IntKind.signed]; omega
        have u3 := wrapI (((k : Int) + 1) % 2) (by omega) (by omega)
        clear hkc hki w6 w7 w8 hnl hi
        have hC2d := hC2.below (Below.drew (Below.refl _ _))
        have HGE : Env B E w ∧ ∀ j, S j → B ≤ j := ⟨hE, h0⟩
        have HE := Lib.hid HGE
        clear HGE hE h0 BW BW1 hpp hpl HHV
        have hcl := hC2.cells
        obtain ⟨c1, c2, c3, c4, c5⟩ := hcl
        go_wp2_with fail
        go_region_held3 (fun W => W.cell? ⟨bp, 0, none⟩ = some (.string ⟨p.toArray⟩) ∧ W.cell? ⟨bs, 0, none⟩ = some (.pointer (some ⟨s, 0, none⟩)) ∧ W.cell? ⟨ba, 0, none⟩ = some (.int .i64 at') ∧
            W.cell? ⟨s, 0, none⟩ = some (.pointer (some ⟨a, 0, none⟩)) ∧ W.cell? ⟨s, 2, none⟩ = some (.int .u32 k))
          (exact ClosAt.cells (by assumption))
          ((first
            | (go_at_call 47; refine (hcr _).mono ?_; rintro e w' ⟨rfl, hb⟩; have hCn := ClosAt.below (by assumption) hb)
            | (go_at_call 46; refine (hA _).mono ?_; rintro e w' ⟨rfl, hb⟩; have hCn := ClosAt.below (by assumption) hb)
            | (go_at_call 31; refine (hD3 _ (StoreIn.disk (ClosAt.store (by assumption))) (ClosAt.env (by assumption) HE.out.1 HE.out.2)).mono ?_; rintro e w' ⟨rfl, hm⟩; obtain ⟨S3, hC3⟩ := ClosAt.moves (by assumption) hm)))
        all_goals (
          have hG := HGG.out
          clear hD3 hA hcr hm HGG c1 c2 c3 c4 c5 hC2 hC2d
          obtain ⟨c, D3⟩ := r3
          simp only at hC3 hn3 hw3 hG
          by_cases hr : c = 0
          · subst hr
            rw [if_pos rfl] at hG
            have hev : errv E 0 = .nilIface := rfl
            simp only [hev]
            clear hev
            obtain ⟨c1, c2, c3, c4, c5⟩ := hC3.cells
            have HGG := Lib.hid hG
            clear hG
            go_wp2_with fail
            refine (flush_any B E a D3 S3 _ hC3.store.disk (hC3.env HE.out.1 HE.out.2)).mono ?_
            rintro e w4 ⟨rfl, hm⟩
            obtain ⟨S4, hC4⟩ := hC3.moves hm
            have hend : ClosPost B E s a mb L k h dead bp bs ba at' p w S R (.returned (errv E D3.flush.1)) w4 := by
              rw [← HGG.out]; exact ⟨rfl, S4, hC4⟩
            clear hC3 hm HGG hC4
            generalize errv E D3.flush.1 = ev at *
            go_wp2_with fail
            go_ret
            exact hend
          · rw [if_neg hr] at hG
            obtain ⟨q, hq⟩ := errv_ne E c hr
            have hend : ClosPost B E s a mb L k h dead bp bs ba at' p w S R (.returned (errv E c)) w' := by
              rw [← hG]; exact ⟨rfl, S3, hC3⟩
            rw [hq] at hend
            simp only [hq]
            clear hq hG
            go_wp2_with fail
            go_ret
            exact hend)
      · rw [if_neg hr] at hG
        obtain ⟨q, hq⟩ := errv_ne E c hr
        have hend : ClosPost B E s a mb L k h dead bp bs ba at' p w S R (.returned (errv E c)) w3 := by
          rw [← hG]; exact ⟨rfl, S2, hC2⟩
        rw [hq] at hend
        simp only [hq]
        clear hq hG
        go_wp2_with fail
        go_ret
        exact hend
end Go.Proofs.YtokfddlknhijbaaGreatDoor
