/- the closed fact of the Store laws: a store holds a text. -/
import Derived.Test.YtokfddlknhijbaaGreatDoorLaw4
namespace Go.Proofs.YtokfddlknhijbaaGreatDoor
open Go Go.RowKit Go.Maps
theorem Env.top {B : Nat} {E : Nat → Addr} {w : World} (h : Env B E w) : Env w.heap.size E w :=
  ⟨Nat.le_refl _, Nat.le_trans h.big h.size, fun c => Nat.lt_of_lt_of_le (h.low c) h.size, h.plain, h.g0, h.g1, h.g2, h.g3, h.g4, h.g5, h.g6, h.g7, h.g8, h.g9, h.row, h.inj⟩
theorem SAt.store {B : Nat} {w W : World} {a s : Nat} {D : Dsk} {S : Nat → Prop} {x : List Txt × Nat × Nat} (h : SAt w a W s x) (hd : DiskAt B w a D S) (hb : Below w.heap.size w W) (hB : B ≤ w.heap.size) :
    ∃ mb, StoreIn B W s a mb D x.1 x.2.1 x.2.2 false S ∧ Step S w (SS s mb S) W := by
  obtain ⟨mb, h1, h2, h3, h4⟩ := h
  have hi : ∀ j, S j → j < w.heap.size := by obtain ⟨_, _, _, hd⟩ := hd; exact hd.hi
  refine ⟨mb, ⟨h3, h4, hd.step hb, fun e => by have := hi _ e; omega, fun e => by have := hi _ e; omega, by omega, by omega⟩, hb.os, hb.tape, hb.output, hb.size, fun k hk _ => hb.block k hk, ?_⟩
  rintro j (rfl | rfl | hS)
  · exact .inr h1
  · exact .inr h2
  · exact .inl hS
def HoldPost (w : World) (e : Ending) (w' : World) : Prop := e = .returned (.bool true) ∧ Below w.heap.size w w'
set_option maxHeartbeats 4000000 in
set_option maxRecDepth 100000 in
theorem hold_any (B : Nat) (E : Nat → Addr) (w : World) (hE : Env B E w) : Calls Tryz.prog 8 #[] w (HoldPost w) := by
  have hE := hE.top
  have hn := new_any w.heap.size 100 w (Nat.le_refl _) (by omega) (by omega)
  have hf8 := fresh_len 100
  obtain ⟨D1, e1, l1, c1, H1, n1⟩ := format_ok (Dsk.fresh 100) (by rw [hf8.1]; omega) hf8.2
  rw [hf8.1] at n1
  have hL : ([([97], [120])] : List Txt).length = 1 := rfl
  have hN : halfN D1 = 49 := by unfold halfN; rw [n1]
  have hroom : (packS [([97], [120])]).length ≤ halfN D1 * 64 := by rw [hN]; decide
  have hold : Old D1 (1 % 2) (1 + 1) := by
    intro _
    have hh := H1.head
    have e : (1 : Nat) % 2 = 1 := rfl
    rw [e] at hh ⊢
    rw [hh, (fld_head 1 1 _ _ (by omega) (by omega) (by decide) (crc_lt _)).1]
    omega
  have hs := sync_ok D1 [([97], [120])] 1 1 (by rw [n1]; omega) (by omega) hroom hold
  obtain ⟨a1, a2, a3, a4, a5⟩ := hs
  obtain ⟨b1, b2⟩ := a1 l1
  obtain ⟨d1, d2⟩ := a4 b1
  have hsr : syncR D1 [([97], [120])] 1 1 false = ⟨0, (syncD D1 1 (1 - 1) (packS [([97], [120])])).2, 2, 0, false⟩ := by
    unfold syncR
    rw [if_neg (by simp), if_neg (by omega)]
    dsimp only
    rw [if_pos b1]
  have hop := d2.opens (by omega) (by decide) (by simp [Rising]) (by simp)
  generalize (syncD D1 1 (1 - 1) (packS [([97], [120])])).2 = D2 at *
  rw [n1] at a3
  clear a1 a2 a4 a5 b1 d1 d2 hroom hold hN
  have HSR := Lib.hid hsr
  have HOP := Lib.hid hop
  have HE1 := Lib.hid e1
  have HD := Lib.hid (And.intro l1 (And.intro c1 (And.intro H1 (And.intro n1 a3))))
  clear hsr hop e1 l1 c1 H1 n1 a3 b2
  go_enter Tryz.func8, Tryz.ntmps8
  go_wp2_with fail
  refine hn.mono ?_
  rintro e w1 ⟨a, S1, rfl, hd1, hs1⟩
  have hb1 : Below w.heap.size w w1 := hs1.below (Nat.le_refl _) (fun k hk => absurd hk (fun h => h))
  have hE1 := hE.below hb1
  have hfm := format_any w.heap.size E a (Dsk.fresh 100) S1 w1 hd1 hE1 (by simp [Dsk.fresh])
  rw [HE1.out] at hfm
  have lo1 : ∀ j, S1 j → w.heap.size ≤ j := by obtain ⟨_, _, _, h⟩ := hd1; exact h.lo
  clear hn
  go_wp2_with fail
  refine hfm.mono ?_
  rintro e w2 (⟨x, _⟩ | ⟨-, s, mb, S2, rfl, hI2, hs2⟩)
  · exact absurd rfl x
  have hb2 := hs2.below hb1.size lo1
  have hE2 := hE1.below hb2
  have lo2 : ∀ j, SS s mb S2 j → w.heap.size ≤ j := hs2.low hb1.size lo1
  have hpt := put2_any w.heap.size E s a mb D1 [] 1 1 false S2 [97] [120] w2 hI2 hE2 (by decide) (by decide) (by decide)
  rw [show putC [] false [97] [120] = 0 by decide, show putL [] false [97] [120] = [([97], [120])] by decide] at hpt
  clear hfm
  go_wp2_with fail
  refine hpt.mono ?_
  rintro e w3 ⟨rfl, S3, hI3, hs3⟩
  have hb12 := hb1.trans hb2
  have hb3 := hs3.below hb12.size lo2
  have hE3 := hE2.below hb3
  have lo3 : ∀ j, SS s mb S3 j → w.heap.size ≤ j := hs3.low hb12.size lo2
  have hsy := sync_any w.heap.size E s a mb D1 [([97], [120])] 1 1 false S3 w3 hI3 hE3 (by rw [HD.out.2.2.2.1]; omega) (by rw [HD.out.2.2.2.1]; omega) (by omega) (by omega) (by rw [HD.out.2.1.waits]; simp) (by simp [Rising]) (by simp) (by simp) (by decide)
  rw [HSR.out] at hsy
  have hev : errv E 0 = .nilIface := rfl
  rw [hev]
  clear hpt
  go_wp2_with fail
  refine hsy.mono ?_
  rintro e w4 ⟨rfl, S4, hI4, hs4⟩
  simp only at hI4
  have hb13 := hb12.trans hb3
  have hb4 := hs4.below hb13.size lo3
  have hb14 := hb13.trans hb4
  have hE4 := hE3.below hb4
  have hoa := open_any w.heap.size E a D2 S4 w4 hI4.disk hE4 (by rw [HD.out.2.2.2.2]; omega)
  rw [HOP.out] at hoa
  simp only [hev]
  clear hsy
  go_wp2_with fail
  refine hoa.mono ?_
  rintro e w5 ⟨o, rfl, hb5, hS5⟩
  obtain ⟨mb5, hI5, hs5⟩ := hS5.store hI4.disk hb5 hb14.size
  have hb15 := hb14.trans (hb5.mono hb14.size)
  have hE5 := hE.below hb15
  have hgt := get2_any w.heap.size E o a mb5 D2 [([97], [120])] 2 0 false S4 [97] w5 hI5 hE5 (by decide)
  rw [show getC [([97], [120])] [97] = 0 by decide, show getS [([97], [120])] [97] = [120] by decide] at hgt
  clear hoa
  go_wp2_with fail
  refine hgt.mono ?_
  rintro e w6 ⟨rfl, hb6⟩
  simp only [hev]
  go_wp2_with fail
  go_ret
  exact ⟨by first | rfl | simp, hb15.trans (hb6.mono hb15.size)⟩
end Go.Proofs.YtokfddlknhijbaaGreatDoor
