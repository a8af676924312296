/- store.Sync. -/
import Derived.Test.YtokfddlknhijbaaGreatDoorClos2
namespace Go.Proofs.YtokfddlknhijbaaGreatDoor
open Go Go.RowKit Go.Maps
attribute [local go_sem ↓] Go.wp_at_zero Go.wp_at_succ
theorem DiskAt.setCell {B : Nat} {w : World} {a : Nat} {D : Dsk} {S : Nat → Prop} (h : DiskAt B w a D S) (p : Addr) (hp : ¬ S p.block) (u : Value) : DiskAt B (w.setCell p u) a D S := by
  obtain ⟨vk, vn, vw, h⟩ := h
  have ne : ∀ {v : Value}, (∀ k, v.ownBlock = some k → S k) → v.ownBlock ≠ some p.block := fun hv e => hp (hv _ e)
  exact ⟨vk, vn, vw, h.blk.set_other p (fun e => hp (e ▸ h.sa)) u, row_set h.kept p u (ne h.sk), row_set h.now p u (ne h.sn), row_set h.waits p u (ne h.sw), h.ne, h.sa, h.sk, h.sn, h.sw, h.lo, fun k hk => by have := h.hi k hk; simpa [World.setCell] using this, h.ok⟩
theorem StoreIn.set {B : Nat} {w : World} {s a mb : Nat} {D : Dsk} {L : List Txt} {k h k' h' : Nat} {dead dead' : Bool} {S : Nat → Prop} (H : StoreIn B w s a mb D L k h dead S) (i : Nat) (u : Value)
    (he : ([.pointer (some ⟨a, 0, none⟩), .map (some mb), .int .u32 k, .int .i64 h, .bool dead] : List Value).set i u = [.pointer (some ⟨a, 0, none⟩), .map (some mb), .int .u32 k', .int .i64 h', .bool dead']) :
    StoreIn B (w.setCell ⟨s, i, none⟩ u) s a mb D L k' h' dead' S :=
  ⟨by have := H.blk.set i u; rw [he] at this; exact this, World.ownsMap.setCell H.map (a := ⟨s, i, none⟩) (fun e => H.mb_ne e.symm) u, H.disk.setCell ⟨s, i, none⟩ H.ns u, H.ns, H.nm, H.ls, H.lm⟩
structure SyncR where
  c : Nat
  D : Dsk
  k : Nat
  h : Nat
  dead : Bool
def syncR (D : Dsk) (L : List Txt) (k h : Nat) (dead : Bool) : SyncR :=
  if dead then ⟨9, D, k, h, dead⟩
  else if halfN D * 64 < (packS L).length then ⟨8, D, k, h, dead⟩
  else
    let r := syncD D k (1 - h) (packS L)
    if r.1 = 0 then ⟨0, r.2, k + 1, 1 - h, false⟩ else ⟨r.1, r.2, k, h, true⟩
def SyncPost (B : Nat) (E : Nat → Addr) (w : World) (s a mb : Nat) (L : List Txt) (S : Nat → Prop) (r : SyncR) (e : Ending) (w' : World) : Prop :=
  e = .returned (errv E r.c) ∧ ∃ S', StoreIn B w' s a mb r.D L r.k r.h r.dead S' ∧ Step (SS s mb S) w (SS s mb S') w'
set_option maxHeartbeats 4000000 in
set_option maxRecDepth 100000 in
theorem sync_any (B : Nat) (E : Nat → Addr) (s a mb : Nat) (D : Dsk) (L : List Txt) (k h : Nat) (dead : Bool) (S : Nat → Prop) (w : World) (H : StoreIn B w s a mb D L k h dead S) (hE : Env B E w)
    (h2 : 2 ≤ D.now.length) (h3 : D.now.length ≤ 4000) (hh : h ≤ 1) (hk : k + 1 < 4294967296) (hw : D.waits.length ≤ 900000)
    (hr : Rising L) (hL : L.length ≤ 1000) (hs : ∀ x ∈ L, x.1.length ≤ 1000000 ∧ x.2.length ≤ 1000000) (hP : (packS L).length ≤ 100000000) :
    Calls Tryz.prog 26 #[.pointer (some ⟨s, 0, none⟩)] w (SyncPost B E w s a mb L S (syncR D L k h dead)) := by
  have H1 := H.step ((Below.refl w.heap.size w).alloc (Nat.le_refl _) (.cells #[.pointer (some ⟨s, 0, none⟩)] 28))
  have q4 : (w.alloc (.cells #[.pointer (some ⟨s, 0, none⟩)] 28)).cell? ⟨s, 4, none⟩ = some (.bool dead) := H1.blk.cell 4
  have hp := pack_any s mb _ _ _ _ L _ H1.blk H1.map hr hL hs hP
  have hB1 := Blk.new w [.pointer (some ⟨s, 0, none⟩)] 28
  have h0 : ∀ j, S j → B ≤ j := by obtain ⟨_, _, _, hd⟩ := H.disk; exact hd.lo
  have hsz : ∀ j, S j → j < w.heap.size := by obtain ⟨_, _, _, hd⟩ := H.disk; exact hd.hi
  have hE1 := hE.below (((Below.refl w.heap.size w).alloc (Nat.le_refl _) (.cells #[.pointer (some ⟨s, 0, none⟩)] 28)).mono hE.size)
  cases hd : dead with
  | true =>
    subst hd
    have g2 : (w.alloc (.cells #[.pointer (some ⟨s, 0, none⟩)] 28)).cell? ⟨2, 0, none⟩ = some (errv E 9) := hE1.g2
    have hend : SyncPost B E w s a mb L S (syncR D L k h true) (.returned (errv E 9)) (w.alloc (.cells #[.pointer (some ⟨s, 0, none⟩)] 28)) :=
      ⟨rfl, S, H1, Step.of_below ((Below.refl w.heap.size w).alloc (Nat.le_refl _) _) _⟩
    generalize syncR D L k h true = R at *
    go_enter Tryz.func26, Tryz.ntmps26
    go_wp2_with fail
    go_ret
    exact hend
  | false =>
    subst hd
    generalize hgR : syncR D L k h false = R at *
    unfold syncR at hgR
    simp only [Bool.false_eq_true, if_false] at hgR
    unfold PackPost at hp
    generalize packS L = p at *
    have HG := Lib.hid hgR
    clear hgR
    go_enter Tryz.func26, Tryz.ntmps26
    go_wp2_with fail
    refine hp.mono ?_
    rintro e w1 ⟨rfl, hb1⟩
    go_wp2_with fail
    have hbw : Below w.heap.size w (w1.alloc (.cells #[.string ⟨p.toArray⟩] 9)) :=
      (((Below.refl w.heap.size w).alloc (Nat.le_refl _) (.cells #[.pointer (some ⟨s, 0, none⟩)] 28)).trans (hb1.mono (by simp))).alloc (by have := hb1.size; simp at this; omega) _
    have hB2 := (hB1.step (Step.of_below hb1 Nil) (fun h => h)).alloc (.cells #[.string ⟨p.toArray⟩] 9)
    have hP2 : Blk (w1.alloc (.cells #[.string ⟨p.toArray⟩] 9)) w1.heap.size [encStr p] 9 := Blk.new w1 [encStr p] 9
    have hlt1 : w.heap.size < w1.heap.size := by have := hb1.size; simp at this; omega
    have hlt2 : w1.heap.size < (w1.alloc (.cells #[.string ⟨p.toArray⟩] 9)).heap.size := by simp
    clear hb1 hB1 H1 q4 hE1 hp
    generalize w1.heap.size = bp at *
    generalize (w1.alloc (.cells #[.string ⟨p.toArray⟩] 9)) = W1 at *
    have H2 := H.step hbw
    have c0 : W1.cell? ⟨s, 0, none⟩ = some (.pointer (some ⟨a, 0, none⟩)) := H2.blk.cell 0
    have c1 : W1.cell? ⟨w.heap.size, 0, none⟩ = some (.pointer (some ⟨s, 0, none⟩)) := hB2.cell 0
    have c2 : W1.cell? ⟨bp, 0, none⟩ = some (.string ⟨p.toArray⟩) := hP2.cell 0
    have c3 : W1.cell? ⟨s, 3, none⟩ = some (.int .i64 h) := H2.blk.cell 3
    have hHH : ∀ W, DiskAt B W a D S → Calls Tryz.prog 44 #[.pointer (some ⟨a, 0, none⟩)] W fun e w' => e = .returned (.int .i64 (halfN D)) ∧ w' = W := fun W hD => half_any B a D S W hD h2 h3
    have hb4 : halfN D ≤ 2000 := by unfold halfN; omega
    have HEQ := Lib.hid (show halfN D = halfN D from rfl)
    generalize hgv : halfN D = hv at *
    have HV := Lib.hid hgv
    clear hgv HEQ
    have w4 : IntKind.i64.wrap ((hv : Int) * 64) = (hv : Int) * 64 := by have := wrap64 (hv * 64) (by omega); simpa using this
    by_cases hbig : hv * 64 < p.length
    · have hbi : (hv : Int) * 64 < (p.length : Int) := by omega
      have hG := HG.out
      rw [if_pos hbig] at hG
      go_quiet ((go_at_call 44; exact Calls.quiet_of_same (hHH _ (H2.disk.step (below_drewN (Below.refl _ _) _)))))
      have g1 : (W1.drewN nq).cell? ⟨1, 0, none⟩ = some (errv E 8) := (hE.below ((below_drewN hbw nq).mono hE.size)).g1
      have hend : SyncPost B E w s a mb L S R (.returned (errv E 8)) (W1.drewN nq) := by
        rw [← hG]; exact ⟨rfl, S, H.step (below_drewN hbw nq), Step.of_below (below_drewN hbw nq) _⟩
      clear hG hHH
      go_wp2_with fail
      go_ret
      exact hend
    · have hbi : (p.length : Int) ≤ (hv : Int) * 64 := by omega
      have hG := HG.out
      rw [if_neg hbig] at hG
      go_quiet ((go_at_call 44; exact Calls.quiet_of_same (hHH _ (H2.disk.step (below_drewN (Below.refl _ _) _)))))
      have HGG := Lib.hid hG
      clear hG HG hHH
      have hk1 : (1 : Int) - (h : Int) = ((1 - h : Nat) : Int) := by omega
      have wk : IntKind.i64.wrap ((1 : Int) - (h : Int)) = ((1 - h : Nat) : Int) := by rw [hk1]; exact wrap64 _ (by omega)
      have H3 := H.step (below_drewN hbw nq)
      have hbw3 := below_drewN hbw nq
      have hB3 : Blk (W1.drewN nq) w.heap.size [.pointer (some ⟨s, 0, none⟩)] 28 := hB2
      have hP3 : Blk (W1.drewN nq) bp [encStr p] 9 := hP2
      have hlt3 : bp < (W1.drewN nq).heap.size := hlt2
      clear c0 c1 c2 c3 hB2 hP2 hlt2 H2 hbw
      generalize W1.drewN nq = W2 at *
      have c0 : W2.cell? ⟨s, 0, none⟩ = some (.pointer (some ⟨a, 0, none⟩)) := H3.blk.cell 0
      have c1 : W2.cell? ⟨w.heap.size, 0, none⟩ = some (.pointer (some ⟨s, 0, none⟩)) := hB3.cell 0
      have c3 : W2.cell? ⟨s, 3, none⟩ = some (.int .i64 h) := H3.blk.cell 3
      have C0 : ClosAt B s a mb L k h false bp w.heap.size W2.heap.size (1 - h) p (W2.alloc (.cells #[.int .i64 (1 - h : Nat)] 3)) S (W2.alloc (.cells #[.int .i64 (1 - h : Nat)] 3)) D S :=
        ⟨H3.step ((Below.refl _ _).alloc (Nat.le_refl _) _), hP3.alloc _, hB3.alloc _, Blk.new W2 [.int .i64 (1 - h : Nat)] 3, fun hs => by have := hsz _ hs; omega, fun hs => by have := hsz _ hs; omega, fun hs => by have := hsz _ hs; have := hbw3.size; omega, Step.refl _ _⟩
      have hbw4 : Below w.heap.size w (W2.alloc (.cells #[.int .i64 (1 - h : Nat)] 3)) := hbw3.alloc hbw3.size _
      have hcl := clos_any B E s a mb D L k h false bp w.heap.size W2.heap.size (1 - h) p _ S C0 (hE.below (hbw4.mono hE.size)) h0 h2 h3 (by have := HV.out; omega) (by omega) hk hw
      clear C0 hlt3 hP3 hB3
      go_wp2_with fail
      refine hcl.mono ?_
      intro e W3 hc3
      obtain ⟨rfl, S3, hC3⟩ := hc3
      have hG := HGG.out
      have hst : Step (SS s mb S) w (SS s mb S3) W3 := (Step.of_below hbw4 _).trans hC3.step
      have d1 := hC3.cs.cell 0
      have d2 := hC3.store.blk.cell 2
      have d3 := hC3.ca.cell 0
      have d4 := hC3.store.blk.cell 3
      have d5 := hC3.store.blk.cell 4
      have e2 := hC3.store.blk.free 2
      have e3 := hC3.store.blk.free 3
      have e4 := hC3.store.blk.free 4
      have n1 : s ≠ w.heap.size := by rintro hs1; have a1 := hC3.store.blk; have a2 := hC3.cs; unfold Blk at a1 a2; rw [hs1, a2] at a1; simp at a1
      have n2 : s ≠ W2.heap.size := by rintro hs1; have a1 := hC3.store.blk; have a2 := hC3.ca; unfold Blk at a1 a2; rw [hs1, a2] at a1; simp at a1
      have HC3 := Lib.hid hC3
      have HST := Lib.hid hst
      clear hcl HGG hC3 hst hbw3 hbw4 c0 c1 c3 H3
      generalize syncD D k (1 - h) p = r at *
      obtain ⟨c, D3⟩ := r
      by_cases hrc : c = 0
      · subst hrc
        simp only [if_true] at hG
        have hev : errv E 0 = .nilIface := rfl
        simp only [hev]
        clear hev
        have wk1 : IntKind.u32.wrap ((k : Int) + 1) = (k : Int) + 1 := by simp [IntKind.wrap, IntKind.bits, IntKind.signed]; omega
        have hend : SyncPost B E w s a mb L S R (.returned .nilIface) ((W3.setCell ⟨s, 2, none⟩ (.int .u32 ((k : Int) + 1))).setCell ⟨s, 3, none⟩ (.int .i64 ((1 - h : Nat) : Int))) := by
          rw [← hG]
          refine ⟨rfl, S3, (HC3.out.store.set (k' := k + 1) (h' := h) (dead' := false) 2 _ (by simp)).set (k' := k + 1) (h' := 1 - h) (dead' := false) 3 _ (by simp), (HST.out.setCell (p := ⟨s, 2, none⟩) (.inl rfl) _).setCell (p := ⟨s, 3, none⟩) (.inl rfl) _⟩
        have f1 : (W3.setCell ⟨s, 2, none⟩ (.int .u32 ((k : Int) + 1))).cell? ⟨w.heap.size, 0, none⟩ = some (.pointer (some ⟨s, 0, none⟩)) := (HC3.out.cs.set_other ⟨s, 2, none⟩ (fun e => n1 e) _).cell 0
        have f2 : (W3.setCell ⟨s, 2, none⟩ (.int .u32 ((k : Int) + 1))).cell? ⟨W2.heap.size, 0, none⟩ = some (.int .i64 ((1 - h : Nat) : Int)) := (HC3.out.ca.set_other ⟨s, 2, none⟩ (fun e => n2 e) _).cell 0
        have f3 := (HC3.out.store.blk.set 2 (.int .u32 ((k : Int) + 1))).cell 3
        have f4 := (HC3.out.store.blk.set 2 (.int .u32 ((k : Int) + 1))).free 3
        clear hG wk hk1
        generalize ((1 - h : Nat) : Int) = ih at *
        go_wp2_with fail
        go_ret
        exact hend
      · simp only [if_neg hrc] at hG
        obtain ⟨q, hq⟩ := errv_ne E c hrc
        have hend : SyncPost B E w s a mb L S R (.returned (errv E c)) (W3.setCell ⟨s, 4, none⟩ (.bool true)) := by
          rw [← hG]
          exact ⟨rfl, S3, HC3.out.store.set (k' := k) (h' := h) (dead' := true) 4 _ rfl, HST.out.setCell (p := ⟨s, 4, none⟩) (.inl rfl) _⟩
        rw [hq] at hend
        simp only [hq]
        clear hq hG
        go_wp2_with fail
        go_ret
        exact hend
end Go.Proofs.YtokfddlknhijbaaGreatDoor
