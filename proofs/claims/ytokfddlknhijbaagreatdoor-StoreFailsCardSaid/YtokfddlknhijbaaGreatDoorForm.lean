/- store.Format. -/
import Derived.Test.YtokfddlknhijbaaGreatDoorSync
namespace Go.Proofs.YtokfddlknhijbaaGreatDoor
open Go Go.RowKit Go.Maps

theorem StoreIn.moves {B : Nat} {s a mb : Nat} {L : List Txt} {k h : Nat} {dead : Bool} {W W' : World} {D D' : Dsk} {S : Nat → Prop}
    (H : StoreIn B W s a mb D L k h dead S) (hm : Moves B W a S D' W') : ∃ S', StoreIn B W' s a mb D' L k h dead S' ∧ Step (SS s mb S) W (SS s mb S') W' := by
  obtain ⟨S', hd, hs⟩ := hm
  have hlt := World.ownsMap.lt H.map
  refine ⟨S', ⟨H.blk.step hs H.ns, H.map.step hs H.nm, hd, hs.out H.blk.lt H.ns, hs.out hlt H.nm, H.ls, H.lm⟩, hs.os, hs.tape, hs.output, hs.size, fun j hj hn => hs.block j hj (fun hS => hn (.inr (.inr hS))), ?_⟩
  rintro j (rfl | rfl | hS)
  · exact .inl (.inl rfl)
  · exact .inl (.inr (.inl rfl))
  · rcases hs.new j hS with h | h
    · exact .inl (.inr (.inr h))
    · exact .inr h
theorem StoreIn.env {B : Nat} {E : Nat → Addr} {s a mb : Nat} {L : List Txt} {k h : Nat} {dead : Bool} {w W : World} {D : Dsk} {S S0 : Nat → Prop}
    (hE : Env B E w) (hs : Step S0 w S W) (h0 : ∀ j, S0 j → B ≤ j) : Env B E W := hE.below (hs.below hE.size h0)

/-- Empty sectors, from n on; f of them. -/
def zz : Nat → Dsk → Nat → Nat × Dsk
  | 0, D, _ => (0, D)
  | f + 1, D, n => let r := D.write (n : Int) []; if r.1 = 0 then zz f r.2 (n + 1) else r
def formT (r0 : Nat × Dsk) : SyncR :=
  if r0.1 = 0 then
    let r1 := r0.2.flush
    if r1.1 = 0 then syncR r1.2 [] 0 0 false else ⟨r1.1, r1.2, 0, 0, false⟩
  else ⟨r0.1, r0.2, 0, 0, false⟩
def formR (D : Dsk) : SyncR := if D.now.length < 8 then ⟨8, D, 0, 0, false⟩ else formT (zz 2 D 0)
def FormPost (B : Nat) (E : Nat → Addr) (w : World) (a : Nat) (S : Nat → Prop) (r : SyncR) (e : Ending) (w' : World) : Prop :=
  (r.c ≠ 0 ∧ e = .returned (.tuple #[.pointer none, errv E r.c]) ∧ ∃ S', DiskAt B w' a r.D S' ∧ Step S w S' w') ∨
  (r.c = 0 ∧ ∃ s mb S', e = .returned (.tuple #[.pointer (some ⟨s, 0, none⟩), .nilIface]) ∧ StoreIn B w' s a mb r.D [] r.k r.h r.dead S' ∧ Step S w (SS s mb S') w')
theorem FormPost.bad {B : Nat} {E : Nat → Addr} {w w' : World} {s a mb : Nat} {S S' : Nat → Prop} {D : Dsk} {L : List Txt} {k h k' h' : Nat} {d d' : Bool} {c : Nat} (hc : c ≠ 0) (H : StoreIn B w' s a mb D L k' h' d' S') (hs : Step S w (SS s mb S') w') :
    FormPost B E w a S ⟨c, D, k, h, d⟩ (.returned (.tuple #[.pointer none, errv E c])) w' :=
  .inl ⟨hc, rfl, S', H.disk, hs.shrink (fun j hj => .inr (.inr hj))⟩

set_option maxHeartbeats 4000000 in
set_option maxRecDepth 100000 in
theorem format_any (B : Nat) (E : Nat → Addr) (a : Nat) (D : Dsk) (S : Nat → Prop) (w : World) (h : DiskAt B w a D S) (hE : Env B E w) (hw : D.waits.length ≤ 800000) :
    Calls Tryz.prog 10 #[.pointer (some ⟨a, 0, none⟩)] w (FormPost B E w a S (formR D)) := by
  have hse := sectors_any B a D S w h
  have hok : D.Ok := by obtain ⟨_, _, _, h⟩ := h; exact h.ok
  have h3 := hok.most
  have h0 : ∀ j, S j → B ≤ j := by obtain ⟨_, _, _, h⟩ := h; exact h.lo
  have hsz : ∀ j, S j → j < w.heap.size := by obtain ⟨_, _, _, h⟩ := h; exact h.hi
  generalize hgR : formR D = R at *
  unfold formR at hgR
  by_cases h8 : D.now.length < 8
  · rw [if_pos h8] at hgR
    have h8i : (D.now.length : Int) < 8 := by omega
    have g1 : w.cell? ⟨1, 0, none⟩ = some (errv E 8) := hE.g1
    have hend : FormPost B E w a S R (.returned (.tuple #[.pointer none, errv E 8])) w.drew := by
      rw [← hgR]; exact .inl ⟨by simp, rfl, S, h.drew, (Step.refl S w).drew⟩
    clear hgR h
    go_enter Tryz.func10, Tryz.ntmps10
    go_wp2_with fail
    refine hse.mono ?_
    rintro e w1 ⟨rfl, rfl⟩
    go_wp2_with fail
    go_quiet (fail)
    have hend2 : FormPost B E w1 a S R (.returned (.tuple #[.pointer none, errv E 8])) (w1.drewN nq) := by
      rcases hend with ⟨x1, x2, S', x3, x4⟩ | ⟨x1, _, _, _, x2, _⟩
      · exact .inl ⟨x1, x2, S', x3.step ⟨rfl, rfl, rfl, Nat.le_refl _, fun _ _ => rfl⟩, x4.trans ⟨rfl, rfl, rfl, Nat.le_refl _, fun _ _ _ => rfl, fun _ h => .inl h⟩⟩
      · cases x2
    go_wp2_with fail
    go_ret2
    exact hend2
  · rw [if_neg h8] at hgR
    have h8i : (8 : Int) ≤ (D.now.length : Int) := by omega
    have hmk : (Instr.makeMap 74 none).run Tryz.prog w = .ok (.map (some w.heap.size)) (w.alloc (.map #[] 0)) := run_makeMap 74 w
    obtain ⟨Z, hZ⟩ : ∃ Z, Z = zz 2 D 0 := ⟨_, rfl⟩
    rw [← hZ] at hgR
    have HZ0 := Lib.hid hZ
    clear hZ
    have HG := Lib.hid hgR
    clear hgR
    go_enter Tryz.func10, Tryz.ntmps10
    go_wp2_with fail
    refine hse.mono ?_
    rintro e w1 ⟨rfl, rfl⟩
    clear hse
    go_wp2_with fail
    have P0 : StoreIn B ((w1.alloc (.map #[] 0)).alloc (.cells #[.pointer (some ⟨a, 0, none⟩), .map (some w1.heap.size), .int .u32 0, .int .i64 0, .bool false] 77)) (w1.heap.size + 1) a w1.heap.size D [] 0 0 false S := by
      have hb := ((Below.refl w1.heap.size w1).alloc (Nat.le_refl _) (.map #[] 0)).alloc (by simp) (.cells #[.pointer (some ⟨a, 0, none⟩), .map (some w1.heap.size), .int .u32 0, .int .i64 0, .bool false] 77)
      have hblk := Blk.new (w1.alloc (.map #[] 0)) [.pointer (some ⟨a, 0, none⟩), .map (some w1.heap.size), .int .u32 0, .int .i64 0, .bool false] 77
      have hB := hE.size
      exact ⟨by simpa using hblk, World.ownsMap.alloc (map_made w1) _, h.step hb, fun hs => by have := hsz _ hs; omega, fun hs => by have := hsz _ hs; omega, by omega, hB⟩
    have Q0 : Step S w1 (SS (w1.heap.size + 1) w1.heap.size S) ((w1.alloc (.map #[] 0)).alloc (.cells #[.pointer (some ⟨a, 0, none⟩), .map (some w1.heap.size), .int .u32 0, .int .i64 0, .bool false] 77)) := by
      have hb := ((Below.refl w1.heap.size w1).alloc (Nat.le_refl _) (.map #[] 0)).alloc (by simp) (.cells #[.pointer (some ⟨a, 0, none⟩), .map (some w1.heap.size), .int .u32 0, .int .i64 0, .bool false] 77)
      refine ⟨hb.os, hb.tape, hb.output, hb.size, fun k hk _ => hb.block k hk, ?_⟩
      rintro j (rfl | rfl | hS)
      · exact .inr (by omega)
      · exact .inr (Nat.le_refl _)
      · exact .inl hS
    clear h hmk
    generalize ((w1.alloc (.map #[] 0)).alloc (.cells #[.pointer (some ⟨a, 0, none⟩), .map (some w1.heap.size), .int .u32 0, .int .i64 0, .bool false] 77)) = W0 at *
    generalize w1.heap.size + 1 = s at *
    generalize w1.heap.size = mb at *
    go_loopw [17] (fun v17 wr => ∃ (i : Nat) (Di : Dsk) (Si : Nat → Prop), i ≤ 2 ∧ v17 = .int .i64 i ∧ StoreIn B wr s a mb Di [] 0 0 false Si ∧ Step S w1 (SS s mb Si) wr ∧ Di.now.length = D.now.length ∧ Di.waits.length ≤ D.waits.length + i ∧ Z = zz (2 - i) Di i) (fun v17 _ => 2 - (intOf v17).toNat)
    case atStart => exact ⟨0, D, S, by omega, rfl, P0, Q0, rfl, by omega, HZ0.out⟩
    case round =>
      obtain ⟨i, Di, Si, hi, rfl, hI, hS, hnow, hwt, hz⟩ := hrel
      clear P0 Q0 HZ0
      have hEi := StoreIn.env (s := s) (a := a) (mb := mb) (L := []) (k := 0) (h := 0) (dead := false) (D := D) hE hS h0
      by_cases hlt : i < 2
      · have hlti : (i : Int) < 2 := by omega
        have hwr := write_any B E a Di Si (i : Int) [] wr hI.disk hEi (by omega) (by simp) (by omega)
        rw [show 2 - i = (2 - (i + 1)) + 1 by omega] at hz
        simp only [zz] at hz
        have hwn := write_now Di (i : Int) []
        have hww := write_waits Di (i : Int) []
        generalize Di.write (i : Int) [] = r at *
        obtain ⟨c, D'⟩ := r
        simp only at hz hwn hww hwr
        have HZ := Lib.hid hz
        clear hz
        go_wp2_with fail
        refine hwr.mono ?_
        rintro e w2 ⟨rfl, hm⟩
        obtain ⟨S2, hI2, hs2⟩ := hI.moves hm
        have hz := HZ.out
        clear hwr hm HZ
        by_cases hrc : c = 0
        · subst hrc
          rw [if_pos rfl] at hz
          have hev : errv E 0 = .nilIface := rfl
          simp only [hev]
          clear hev
          go_wp2_with fail
          go_round
          case rel => exact ⟨i + 1, D', S2, by omega, by go_num, hI2, hS.trans hs2, by omega, by omega, hz⟩
          case measure => simp [intOf]; omega
        · rw [if_neg hrc] at hz
          obtain ⟨q, hq⟩ := errv_ne E c hrc
          have hend : FormPost B E w1 a S R (.returned (.tuple #[.pointer none, errv E c])) w2 := by
            rw [← HG.out, hz]; unfold formT; simp only [if_neg hrc]; exact FormPost.bad hrc hI2 (hS.trans hs2)
          rw [hq] at hend
          simp only [hq]
          clear hq hz
          go_wp2_with fail
          go_ret2
          exact hend
      · have hi2 : i = 2 := by omega
        subst hi2
        simp only [Nat.sub_self, zz] at hz
        have hG := HG.out
        rw [hz] at hG
        unfold formT at hG
        simp only [if_true] at hG
        have hfl := flush_any B E a Di Si wr hI.disk hEi
        have hf1 := flush_now Di
        have hf2 := flush_waits Di
        clear hz HG
        generalize Di.flush = r at *
        obtain ⟨c, D2⟩ := r
        simp only at hG hf1 hf2 hfl
        have HG := Lib.hid hG
        clear hG
        go_wp2_with fail
        refine hfl.mono ?_
        rintro e w2 ⟨rfl, hm⟩
        obtain ⟨S2, hI2, hs2⟩ := hI.moves hm
        have hS2 := hS.trans hs2
        clear hfl hm
        by_cases hrc : c = 0
        · subst hrc
          have hG := HG.out
          rw [if_pos rfl] at hG
          have hE2 := StoreIn.env (s := s) (a := a) (mb := mb) (L := []) (k := 0) (h := 0) (dead := false) (D := D) hE hS2 h0
          have hsy := sync_any B E s a mb D2 [] 0 0 false S2 w2 hI2 hE2 (by omega) (by omega) (by omega) (by omega) (by omega) List.Pairwise.nil (by simp) (by simp) (by simp [packS])
          rw [hG] at hsy
          have hev : errv E 0 = .nilIface := rfl
          simp only [hev]
          clear hev hG HG hE2
          go_wp2_with fail
          refine hsy.mono ?_
          rintro e w3 ⟨rfl, S3, hI3, hs3⟩
          clear hsy
          have hS3 := hS2.trans hs3
          obtain ⟨c, D3, k3, h3', d3⟩ := R
          simp only at hI3
          by_cases hrc : c = 0
          · subst hrc
            have hend : FormPost B E w1 a S ⟨0, D3, k3, h3', d3⟩ (.returned (.tuple #[.pointer (some ⟨s, 0, none⟩), .nilIface])) w3 :=
              .inr ⟨rfl, s, mb, S3, rfl, hI3, hS3⟩
            have hev : errv E 0 = .nilIface := rfl
            simp only [hev]
            clear hev
            go_wp2_with fail
            go_ret2
            exact hend
          · obtain ⟨q, hq⟩ := errv_ne E c hrc
            have hend : FormPost B E w1 a S ⟨c, D3, k3, h3', d3⟩ (.returned (.tuple #[.pointer none, errv E c])) w3 := FormPost.bad hrc hI3 hS3
            rw [hq] at hend
            simp only [hq]
            clear hq
            go_wp2_with fail
            go_ret2
            exact hend
        · have hG := HG.out
          rw [if_neg hrc] at hG
          obtain ⟨q, hq⟩ := errv_ne E c hrc
          have hend : FormPost B E w1 a S R (.returned (.tuple #[.pointer none, errv E c])) w2 := by
            rw [← hG]; exact FormPost.bad hrc hI2 hS2
          rw [hq] at hend
          simp only [hq]
          clear hq hG HG
          go_wp2_with fail
          go_ret2
          exact hend
end Go.Proofs.YtokfddlknhijbaaGreatDoor
