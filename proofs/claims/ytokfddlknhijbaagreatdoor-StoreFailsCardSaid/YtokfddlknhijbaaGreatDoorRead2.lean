/- store.read at a sector that holds no head. -/
import Derived.Test.YtokfddlknhijbaaGreatDoorRead
import Derived.Deep.RegionWith
namespace Go.Proofs.YtokfddlknhijbaaGreatDoor
open Go Go.RowKit Go.Maps
attribute [local go_sem ↓] Go.wp_at_zero Go.wp_at_succ
theorem region_class {P : Program} {id : Nat} {Q : Exit → Act → World → Prop} {a : Act} {w : World} {l : List Oper} (C : World → Prop) (hm : P.follows .mixedOrders = true) (hB : Region.lexB .any l.toArray = true) (hC : C w.drew)
    (h : wpQuiet P l.toArray C (fun a' => ∀ w', C w' → Q .normal a' w') l a) : (Code.region id l.toArray true).wp P Q a w :=
  wp_region_quiet (C := C) hm hB hC (by simpa using h)
theorem wrap64 (x : Nat) (h : x < 4294967296) : IntKind.i64.wrap (x : Int) = x := by simp [IntKind.wrap, IntKind.bits, IntKind.signed]; omega
theorem DiskAt.drew {B : Nat} {w : World} {a : Nat} {D : Dsk} {S : Nat → Prop} (h : DiskAt B w a D S) : DiskAt B w.drew a D S := h.step (Below.drew (Below.refl _ _))
set_option maxHeartbeats 4000000 in
set_option maxRecDepth 100000 in
theorem read_none2 (B : Nat) (a : Nat) (D : Dsk) (S : Nat → Prop) (n : Nat) (w : World) (h : DiskAt B w a D S) (hn : n < D.now.length) (h2 : 2 ≤ D.now.length) (hp : Lib.hasPrefix (D.now.getD n []) cake = true) (hk : headOk D (D.now.getD n []) = false) :
    Calls Tryz.prog 42 #[.pointer (some ⟨a, 0, none⟩), .int .i64 n] w (ReadPost w a none) := by
  have hr := read_any B a D S n w h (by omega) (by omega)
  have hok : D.Ok := by obtain ⟨_, _, _, h⟩ := h; exact h.ok
  have hlen := now_len hok n hn
  rw [Int.toNat_natCast] at hr
  have hx := Tryz.strings_HasPrefix ⟨(D.now.getD n []).toArray⟩ ⟨#[99, 97, 107, 101]⟩ w
  have e1 : Lib.hasPrefix (ByteArray.data ⟨(D.now.getD n []).toArray⟩).toList (ByteArray.data ⟨#[99, 97, 107, 101]⟩).toList = true := by simpa [cake] using hp
  rw [e1] at hx
  clear e1 hn
  unfold headOk at hk
  rw [hp, Bool.true_and] at hk
  clear hp
  generalize D.now.getD n [] = hh at *
  have s1 := fun W => slice_run hh 4 8 4 8 rfl rfl (by omega) (by omega) W
  have s2 := fun W => slice_run hh 8 12 8 12 rfl rfl (by omega) (by omega) W
  have s3 := fun W => slice_run hh 12 16 12 16 rfl rfl (by omega) (by omega) W
  have s4 := fun W => slice_run hh 16 20 16 20 rfl rfl (by omega) (by omega) W
  have s5 := fun W => slice_to_run hh 24 24 rfl (by omega) W
  have f1 := fld_lt hh 4
  have f2 := fld_lt hh 8
  have f3 := fld_lt hh 12
  have f4 := fld_lt hh 16
  have q1 : val ((hh.drop 4).take (8 - 4)) = fld hh 4 := rfl
  have q2 : val ((hh.drop 8).take (12 - 8)) = fld hh 8 := rfl
  have q3 : val ((hh.drop 12).take (16 - 12)) = fld hh 12 := rfl
  have q4 : val ((hh.drop 16).take (20 - 16)) = fld hh 16 := rfl
  have l1 : ((hh.drop 4).take (8 - 4)).length ≤ 4 := by simp; omega
  have l2 : ((hh.drop 8).take (12 - 8)).length ≤ 4 := by simp; omega
  have l3 : ((hh.drop 12).take (16 - 12)).length ≤ 4 := by simp; omega
  have l4 : ((hh.drop 16).take (20 - 16)).length ≤ 4 := by simp; omega
  clear hlen
  generalize (hh.drop 4).take (8 - 4) = x1 at *
  generalize (hh.drop 8).take (12 - 8) = x2 at *
  generalize (hh.drop 12).take (16 - 12) = x3 at *
  generalize (hh.drop 16).take (20 - 16) = x4 at *
  generalize hh.take 24 = x5 at *
  generalize fld hh 4 = k at *
  generalize fld hh 8 = hf at *
  generalize fld hh 12 = sz at *
  generalize fld hh 16 = c at *
  have HA := fun W => head_any k hf sz c f1 f2 f3 f4 W
  have h3 := hok.most
  have HH := fun W hD => half_any B a D S W hD h2 (by omega)
  have hN : (D.now.length - 2) / 2 = halfN D := rfl
  rw [hN] at HH
  have hb4 : halfN D ≤ 4000 := by have := hok.most; unfold halfN; omega
  clear hN
  generalize headS k hf sz c = hs at *
  generalize halfN D = hv at *
  have w2 := wrap64 hf f2
  have w3 := wrap64 sz f3
  have w4 : IntKind.i64.wrap ((hv : Int) * 64) = (hv : Int) * 64 := by have := wrap64 (hv * 64) (by omega); simpa using this
  have HK := Lib.hid hk
  clear hk
  clear hok
  have hd1 := h.drew
  have hd2 := hd1.drew
  go_enter Tryz.func42, Tryz.ntmps42
  go_wp2_with fail
  refine hr.mono ?_
  rintro e w1 ⟨rfl, rfl⟩
  go_wp2_with fail
  refine hx.mono ?_
  rintro e w1 ⟨rfl, rfl⟩
  go_wp2_with fail
  clear hr hx
  go_region_held3 (fun _ => True) (trivial) ((go_at_call 63; refine (value_any _ (by assumption) _).mono ?_; rintro e w' ⟨rfl, rfl⟩))
  go_wp2_with fail
  have hk2 := HK.out
  have H46 : ∀ W, Below w1.heap.size w1 W → Calls Tryz.prog 46 #[.int .u32 k, .int .i64 hf, .int .i64 sz, .int .u32 c] W fun e w' => e = .returned (encStr hs) ∧ Below w1.heap.size w1 w' :=
    fun W hW => (HA W).mono (fun e w' h => ⟨h.1, hW.trans (h.2.mono hW.size)⟩)
  have H44 : ∀ W, Below w1.heap.size w1 W → Calls Tryz.prog 44 #[.pointer (some ⟨a, 0, none⟩)] W fun e w' => e = .returned (.int .i64 hv) ∧ Below w1.heap.size w1 w' :=
    fun W hW => (HH W (h.step hW)).mono (fun e w' h => ⟨h.1, h.2 ▸ hW⟩)
  have hC : Below w1.heap.size w1 w1.drew.drew := Below.drew (Below.drew (Below.refl _ _))
  clear HA HH hd1 hd2 f1 f2 f3 f4 q1 q2 q3 q4 s1 s2 s3 s4 l1 l2 l3 l4
  cases hq : (hs == x5) with
  | false =>
    clear hk2 HK
    refine region_class (fun W => Below w1.heap.size w1 W) (by kernel_rfl) (by kernel_rfl) hC ?_
    repeat (
      refine wpQuiet_step (fun K hK => ?_)
      go_simp
      first
        | (refine hK _ ?_; clear hK K)
        | (apply Exists.intro
           refine ⟨fun W hW => ?_, hK _ ?_⟩
           (first | rfl | (go_at_call 46; exact H46 W hW) | (go_at_call 44; exact H44 W hW))
           clear hK K))
    refine wpQuiet_nil ?_
    intro w2 hW
    go_wp2_with fail
    go_ret2
    exact ⟨rfl, hW⟩
  | true =>
    have hk3 : (!decide ((1 : Int) < (hf : Int)) && !decide ((hv : Int) * 64 < (sz : Int))) = false := by rw [hq] at hk2; simpa using hk2
    clear hk2 HK
    cases hq1 : decide ((1 : Int) < (hf : Int)) with
    | true =>
      have p1 : 1 < hf := by have := of_decide_eq_true hq1; omega
      refine region_class (fun W => Below w1.heap.size w1 W) (by kernel_rfl) (by kernel_rfl) hC ?_
      repeat (
        refine wpQuiet_step (fun K hK => ?_)
        go_simp
        first
          | (refine hK _ ?_; clear hK K)
          | (apply Exists.intro
             refine ⟨fun W hW => ?_, hK _ ?_⟩
             (first | rfl | (go_at_call 46; exact H46 W hW) | (go_at_call 44; exact H44 W hW))
             clear hK K))
      refine wpQuiet_nil ?_
      intro w2 hW
      go_wp2_with fail
      go_ret2
      exact ⟨rfl, hW⟩
    | false =>
      have hq2 : decide ((hv : Int) * 64 < (sz : Int)) = true := by rw [hq1] at hk3; simpa using hk3
      clear hk3
      have p1 : ¬ 1 < hf := by have := of_decide_eq_false hq1; omega
      have p2 : hv * 64 < sz := by have := of_decide_eq_true hq2; omega
      refine region_class (fun W => Below w1.heap.size w1 W) (by kernel_rfl) (by kernel_rfl) hC ?_
      repeat (
        refine wpQuiet_step (fun K hK => ?_)
        go_simp
        first
          | (refine hK _ ?_; clear hK K)
          | (apply Exists.intro
             refine ⟨fun W hW => ?_, hK _ ?_⟩
             (first | rfl | (go_at_call 46; exact H46 W hW) | (go_at_call 44; exact H44 W hW))
             clear hK K))
      refine wpQuiet_nil ?_
      intro w2 hW
      go_wp2_with fail
      go_ret2
      exact ⟨rfl, hW⟩
end Go.Proofs.YtokfddlknhijbaaGreatDoor
