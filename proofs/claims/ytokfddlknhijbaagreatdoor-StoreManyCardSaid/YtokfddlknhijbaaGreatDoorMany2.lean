/- StoreMany: the walk. -/
import Derived.Test.YtokfddlknhijbaaGreatDoorMany
import Derived.Test.YtokfddlknhijbaaGreatDoorCoded
namespace Go.Proofs.YtokfddlknhijbaaGreatDoor
open Go Go.RowKit Go.Maps
theorem StoreIn.lo {B : Nat} {w : World} {s a mb : Nat} {D : Dsk} {L : List Txt} {k h : Nat} {dead : Bool} {S : Nat → Prop} (H : StoreIn B w s a mb D L k h dead S) : ∀ j, SS s mb S j → B ≤ j := by
  have := H.disk
  obtain ⟨_, _, _, hd⟩ := this
  rintro j (rfl | rfl | hS)
  · exact H.ls
  · exact H.lm
  · exact hd.lo j hS
theorem many_first : ∀ i, i < 110 → ∃ x ∈ many (i + 1), x.1 = tn 0
  | 0, _ => ⟨(tn 0, [120]), by simp [many, mput, dropT, ins], rfl⟩
  | i + 1, h => by
    obtain ⟨x, hx, he⟩ := many_first i (by omega)
    refine ⟨x, ?_, he⟩
    show x ∈ (if i + 1 < 100 then mput (many (i + 1)) (tn (i + 1)) [120] else many (i + 1))
    split
    · unfold mput
      rw [mem_ins]
      right
      unfold dropT
      rw [List.mem_filter]
      refine ⟨hx, ?_⟩
      rw [he, tn_inj (i + 1) (by omega) 0 (by omega)]
      rfl
    · exact hx
theorem many_last (n ll : Nat) (hn : n ≤ 110) : putC (many n) false [116, 48] (zeros ll) = if 300000 < ll then 2 else 0 := by
  have hk : isKey [116, 48] = true := by decide
  have hz : (zeros ll).length = ll := by simp [zeros]
  unfold putC
  rw [hk, hz]
  by_cases h : 300000 < ll
  · have : (300000 : Int) < (ll : Int) := by omega
    simp [h, this]
  · have h2 : ¬ (300000 : Int) < (ll : Int) := by omega
    have h3 : (!hasT (many n) [116, 48] && decide ((100 : Int) ≤ ((many n).length : Int))) = false := by
      cases n with
      | zero => rfl
      | succ i =>
        obtain ⟨x, hx, he⟩ := many_first i (by omega)
        have : hasT (many (i + 1)) [116, 48] = true := by
          unfold hasT
          rw [List.any_eq_true]
          exact ⟨x, hx, by rw [he]; rfl⟩
        rw [this]; rfl
    rw [h3]
    simp [h, h2]
set_option maxHeartbeats 4000000 in
set_option maxRecDepth 100000 in
theorem many_any (B : Nat) (E : Nat → Addr) (w : World) (hE : Env B E w) (n ll : Nat) (hn : n ≤ 110) (hl : ll ≤ 300010) : Calls Tryz.prog 3 #[.int .i64 n, .int .i64 ll] w (HoldPost w) := by
  have hE := hE.top
  have hho := hold_any _ E w hE
  have n0 : ¬ (n : Int) < 0 := by omega
  have n1 : ¬ (110 : Int) < (n : Int) := by omega
  have l0 : ¬ (ll : Int) < 0 := by omega
  have l1 : ¬ (300010 : Int) < (ll : Int) := by omega
  go_enter Tryz.func3, Tryz.ntmps3
  go_wp2_with fail
  refine hho.mono ?_
  rintro e w1 ⟨rfl, hb1⟩
  have hn9 := new_any w.heap.size 4000 w1 hb1.size (by omega) (by omega)
  clear hho
  go_wp2_with fail
  refine hn9.mono ?_
  rintro e w2 ⟨a, S1, rfl, hd1, hs1⟩
  have hb2 : Below w.heap.size w1 w2 := hs1.below hb1.size (fun k hk => absurd hk (fun h => h))
  have hb12 := hb1.trans hb2
  have hE2 := hE.below hb12
  have hf8 := fresh_len 4000
  obtain ⟨D1, e1, l1', c1, H1, n1'⟩ := format_ok (Dsk.fresh 4000) (by rw [hf8.1]; omega) hf8.2
  have hfm := format_any w.heap.size E a (Dsk.fresh 4000) S1 w2 hd1 hE2 (by simp [Dsk.fresh])
  rw [e1] at hfm
  have lo1 : ∀ j, S1 j → w.heap.size ≤ j := by obtain ⟨_, _, _, h⟩ := hd1; exact h.lo
  clear hn9 e1 hf8 c1 H1 n1' l1' hd1
  go_wp2_with fail
  refine hfm.mono ?_
  rintro e w3 (⟨x, _⟩ | ⟨-, s, mb, S2, rfl, hI2, hs2⟩)
  · exact absurd rfl x
  have hb3 := hb12.trans (hs2.below hb12.size lo1)
  simp only at hI2
  clear hfm hs2 lo1 hs1
  go_wp2_with fail
  go_loopw [9] (fun v9 wr => ∃ (i : Nat) (Si : Nat → Prop), i ≤ n ∧ v9 = .int .i64 i ∧ StoreIn w.heap.size wr s a mb D1 (many i) 1 1 false Si ∧ Below w.heap.size w wr) (fun v9 _ => n - (intOf v9).toNat)
  case atStart => exact ⟨0, S2, by omega, rfl, hI2, hb3⟩
  case round =>
    obtain ⟨i, Si, hi, rfl, hI, hb⟩ := hrel
    clear hI2
    by_cases hlt : i < n
    · have hlti : (i : Int) < (n : Int) := by omega
      have hdl := dec_length i
      have hdc := fun W => dec_any i (by omega) W
      have htn : (({ data := #[116] } : ByteArray) ++ { data := (dec i).toArray }) = ⟨(tn i).toArray⟩ := rfl
      have hml := many_length i (by omega)
      have htl : (tn i).length ≤ 1000000 := by simp [tn]; omega
      have hp0 := fun W hW hEW => put2_any w.heap.size E s a mb D1 (many i) 1 1 false Si (tn i) [120] W hW hEW htl (by decide) (by omega)
      have hcode : putC (many i) false (tn i) [120] = if i < 100 then 0 else 2 := by
        unfold putC
        rw [tn_key i (by omega), many_has i (by omega), hml]
        by_cases h : i < 100
        · rw [if_pos h]; have : ¬ (100 : Int) ≤ ((min i 100 : Nat) : Int) := by omega
          simp [this]
        · rw [if_neg h]; have : (100 : Int) ≤ ((min i 100 : Nat) : Int) := by omega
          simp [this]
      have hlist : putL (many i) false (tn i) [120] = many (i + 1) := by
        unfold putL
        rw [hcode]
        show _ = if i < 100 then _ else _
        by_cases h : i < 100 <;> simp [h]
      rw [hcode, hlist] at hp0
      have HP0 := Lib.hid hp0
      clear hp0 hcode hlist hml
      go_wp2_with fail
      refine (hdc _).mono ?_
      rintro e w4 ⟨rfl, hb4⟩
      have hI4 := hI.step hb4
      have hb04 := hb.trans (hb4.mono hb.size)
      clear hdc
      go_wp2_with fail
      refine (HP0.out _ hI4 (hE.below hb04)).mono ?_
      rintro e w5 ⟨rfl, S5, hI5, hs5⟩
      have hb5 := hb04.trans (hs5.below hb04.size hI4.lo)
      clear htn HP0
      by_cases h100 : i < 100
      · rw [if_pos h100]
        have h1i : (i : Int) < 100 := by omega
        have hev : errv E 0 = .nilIface := rfl
        simp only [hev]
        clear hev
        go_wp2_with fail
        go_round
        case rel => exact ⟨i + 1, S5, by omega, by go_num, hI5, hb5⟩
        case measure => simp [intOf]; omega
      · rw [if_neg h100]
        have h1i : ¬ (i : Int) < 100 := by omega
        have h2i : (100 : Int) ≤ (i : Int) := by omega
        have hcd := coded_any w.heap.size E 2 2 w5 (hE.below hb5) (by omega)
        rw [show decide (((2 : Nat) : Int) = 2) = true by decide] at hcd
        generalize errv E 2 = ev at *
        go_wp2_with fail
        refine hcd.mono ?_
        rintro e w6 ⟨rfl, hb6⟩
        go_wp2_with fail
        go_round
        case rel => exact ⟨i + 1, S5, by omega, by go_num, hI5.step hb6, hb5.trans (hb6.mono hb5.size)⟩
        case measure => simp [intOf]; omega
    · have hin : i = n := by omega
      subst hin
      have hlast := many_last i ll hn
      have hni : ¬ (i : Int) < (i : Int) := by omega
      obtain ⟨i0, hi0, hz0, hz1, hz2⟩ := info_parts infoB
      have hmk : (Instr.makeSlice 34 (.int .i64 (ll : Int)) (.int .i64 (ll : Int))).run Tryz.prog wr = .ok (.slice (some ⟨wr.heap.size, 0, none⟩) ll ll) (wr.alloc (.cells (List.replicate ll (Value.int .u8 0)).toArray 5)) := by
        have := run_make (P := Tryz.prog) wr 34 5 i0 (.int .u8 0) Tryz.underlying34 hi0 hz0 .i64 .i64 ll ll (by omega) (by omega) (by rw [hz2]; omega) (by omega)
        have e : madeCells #[Value.int .u8 0] ll = (List.replicate ll (Value.int .u8 0)).toArray := by
          apply Array.ext'
          simp only [madeCells, Array.toList_map, Array.toList_range, List.size_toArray, List.length_cons, List.length_nil]
          rw [List.eq_replicate_iff]
          refine ⟨by simp, fun b hb => ?_⟩
          obtain ⟨x, _, rfl⟩ := List.mem_map.1 hb
          simp [Nat.mod_one]
        simpa [hz1, Value.cells, e] using this
      have hcv : (convert 34 9 (.slice (some ⟨wr.heap.size, 0, none⟩) ll ll)).run Tryz.prog (wr.alloc (.cells (List.replicate ll (Value.int .u8 0)).toArray 5)) = .ok (.string ⟨(zeros ll).toArray⟩) (wr.alloc (.cells (List.replicate ll (Value.int .u8 0)).toArray 5)) := by
        have := run_convert_bytes_arg (P := Tryz.prog) (wr.alloc (.cells (List.replicate ll (Value.int .u8 0)).toArray 5)) 34 5 Tryz.underlying34 Tryz.underlying5 wr.heap.size 0 ll ll (List.replicate ll 0) (by simp) (fun j hj => by
          rw [Nat.zero_add, (Blk.new wr (List.replicate ll (Value.int .u8 0)) 5).cell j]
          simp [hj]) 9 Tryz.underlying9
        rw [this]
        have e : strOfNums (List.replicate ll 0) = ⟨(zeros ll).toArray⟩ := by simp [strOfNums, zeros]
        rw [e]
      have hb4 : Below w.heap.size w (wr.alloc (.cells (List.replicate ll (Value.int .u8 0)).toArray 5)) := hb.alloc hb.size _
      have hI4 := hI.step ((Below.refl wr.heap.size wr).alloc (Nat.le_refl _) (.cells (List.replicate ll (Value.int .u8 0)).toArray 5))
      have hpl := put2_any w.heap.size E s a mb D1 (many i) 1 1 false Si [116, 48] (zeros ll) _ hI4 (hE.below hb4) (by decide) (by simp [zeros]; omega) (by rw [many_length i hn]; omega)
      rw [hlast] at hpl
      clear hlast hi0 hz0 hz1 hz2
      generalize zeros ll = zs at *
      generalize (wr.alloc (.cells (List.replicate ll (Value.int .u8 0)).toArray 5)) = W4 at *
      generalize putL (many i) false [116, 48] zs = L2 at *
      clear n0 n1 l0 l1
      go_wp2_with fail
      refine hpl.mono ?_
      rintro e w5 ⟨rfl, S5, hI5, hs5⟩
      have hb5 := hb4.trans (hs5.below hb4.size hI4.lo)
      by_cases hbig : 300000 < ll
      · rw [if_pos hbig]
        have hbi : (300000 : Int) < (ll : Int) := by omega
        have hcd := coded_any w.heap.size E 2 2 w5 (hE.below hb5) (by omega)
        rw [show decide (((2 : Nat) : Int) = 2) = true by decide] at hcd
        generalize errv E 2 = ev at *
        go_wp2_with fail
        refine hcd.mono ?_
        rintro e w6 ⟨rfl, hb6⟩
        go_wp2_with fail
        go_ret
        exact ⟨rfl, hb5.trans (hb6.mono hb5.size)⟩
      · rw [if_neg hbig]
        have hbi : ¬ (300000 : Int) < (ll : Int) := by omega
        have hev : errv E 0 = .nilIface := rfl
        simp only [hev]
        clear hev
        go_wp2_with fail
        go_ret
        exact ⟨rfl, hb5⟩
end Go.Proofs.YtokfddlknhijbaaGreatDoor
