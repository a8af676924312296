/- store.read at a sector that holds a head; and at any. -/
import Derived.Test.YtokfddlknhijbaaGreatDoorRead2
import Derived.Test.YtokfddlknhijbaaGreatDoorParse
namespace Go.Proofs.YtokfddlknhijbaaGreatDoor
open Go Go.RowKit Go.Maps
attribute [local go_sem ↓] Go.wp_at_zero Go.wp_at_succ
theorem sect_snoc (D : Dsk) (n i : Nat) : sect D n (i + 1) = sect D n i ++ D.now.getD (n + i) [] := by
  simp [sect, List.range_succ]
theorem sect_length {D : Dsk} (h : ∀ x ∈ D.now, x.length = 64) (n : Nat) : ∀ i, n + i ≤ D.now.length → (sect D n i).length = 64 * i
  | 0, _ => rfl
  | i + 1, hi => by
    rw [sect_snoc, List.length_append, sect_length h n i (by omega)]
    have e : D.now.getD (n + i) [] = D.now[n + i]'(by omega) := by simp [show n + i < D.now.length by omega]
    rw [e, h _ (List.getElem_mem _)]; omega
set_option maxHeartbeats 4000000 in
set_option maxRecDepth 100000 in
theorem read_rest (B : Nat) (a : Nat) (D : Dsk) (S : Nat → Prop) (n : Nat) (w : World) (h : DiskAt B w a D S) (hn : n < D.now.length) (h2 : 2 ≤ D.now.length) (hp : Lib.hasPrefix (D.now.getD n []) cake = true) (hk : headOk D (D.now.getD n []) = true) :
    Calls Tryz.prog 42 #[.pointer (some ⟨a, 0, none⟩), .int .i64 n] w (ReadPost w a (readS D n)) := by
  have hrs : readS D n = (if crc (bodyS D (fld (D.now.getD n []) 8) (fld (D.now.getD n []) 12)) == fld (D.now.getD n []) 16 then (parse (bodyS D (fld (D.now.getD n []) 8) (fld (D.now.getD n []) 12)).length (bodyS D (fld (D.now.getD n []) 8) (fld (D.now.getD n []) 12)) []).map fun L => (L, fld (D.now.getD n []) 4, fld (D.now.getD n []) 8) else none) := by unfold readS; simp only [hk, if_true]
  rw [hrs]
  clear hrs
  have hr := read_any B a D S n w h (by omega) (by omega)
  have hok : D.Ok := by obtain ⟨_, _, _, h⟩ := h; exact h.ok
  have hlen := now_len hok n hn
  rw [Int.toNat_natCast] at hr
  have hx := Tryz.strings_HasPrefix ⟨(D.now.getD n []).toArray⟩ ⟨#[99, 97, 107, 101]⟩ w
  have e1 : Lib.hasPrefix (ByteArray.data ⟨(D.now.getD n []).toArray⟩).toList (ByteArray.data ⟨#[99, 97, 107, 101]⟩).toList = true := by simpa [cake] using hp
  rw [e1] at hx
  clear e1 hn
  unfold headOk at hk
  rw [hp, Bool.true_and] at hk
  clear hp
  generalize D.now.getD n [] = hh at *
  have s1 := fun W => slice_run hh 4 8 4 8 rfl rfl (by omega) (by omega) W
  have s2 := fun W => slice_run hh 8 12 8 12 rfl rfl (by omega) (by omega) W
  have s3 := fun W => slice_run hh 12 16 12 16 rfl rfl (by omega) (by omega) W
  have s4 := fun W => slice_run hh 16 20 16 20 rfl rfl (by omega) (by omega) W
  have s5 := fun W => slice_to_run hh 24 24 rfl (by omega) W
  have f1 := fld_lt hh 4
  have f2 := fld_lt hh 8
  have f3 := fld_lt hh 12
  have f4 := fld_lt hh 16
  have q1 : val ((hh.drop 4).take (8 - 4)) = fld hh 4 := rfl
  have q2 : val ((hh.drop 8).take (12 - 8)) = fld hh 8 := rfl
  have q3 : val ((hh.drop 12).take (16 - 12)) = fld hh 12 := rfl
  have q4 : val ((hh.drop 16).take (20 - 16)) = fld hh 16 := rfl
  have l1 : ((hh.drop 4).take (8 - 4)).length ≤ 4 := by simp; omega
  have l2 : ((hh.drop 8).take (12 - 8)).length ≤ 4 := by simp; omega
  have l3 : ((hh.drop 12).take (16 - 12)).length ≤ 4 := by simp; omega
  have l4 : ((hh.drop 16).take (20 - 16)).length ≤ 4 := by simp; omega
  clear hlen
  generalize (hh.drop 4).take (8 - 4) = x1 at *
  generalize (hh.drop 8).take (12 - 8) = x2 at *
  generalize (hh.drop 12).take (16 - 12) = x3 at *
  generalize (hh.drop 16).take (20 - 16) = x4 at *
  generalize hh.take 24 = x5 at *
  generalize fld hh 4 = k at *
  generalize fld hh 8 = hf at *
  generalize fld hh 12 = sz at *
  generalize fld hh 16 = c at *
  have HA := fun W => head_any k hf sz c f1 f2 f3 f4 W
  have h3 := hok.most
  have HH := fun W hD => half_any B a D S W hD h2 (by omega)
  have hN : (D.now.length - 2) / 2 = halfN D := rfl
  rw [hN] at HH
  have hb4 : halfN D ≤ 4000 := by have := hok.most; unfold halfN; omega
  clear hN
  generalize headS k hf sz c = hs at *
  have hhv : halfN D = (D.now.length - 2) / 2 := rfl
  have hnow := hok.now
  unfold bodyS
  generalize halfN D = hv at *
  have w2 := wrap64 hf f2
  have w3 := wrap64 sz f3
  have w4 : IntKind.i64.wrap ((hv : Int) * 64) = (hv : Int) * 64 := by have := wrap64 (hv * 64) (by omega); simpa using this
  have hq : (hs == x5) = true := by simp only [Bool.and_eq_true] at hk; exact hk.1.1
  have p1 : ¬ 1 < hf := by simp at hk; omega
  have p2 : ¬ hv * 64 < sz := by simp at hk; omega
  clear hk
  have P1 : (hf : Int) ≤ 1 := by omega
  have P2 : (sz : Int) ≤ (hv : Int) * 64 := by omega
  obtain ⟨pp, hpp, hpl, hpn⟩ : ∃ pp : Nat, (hf : Int) * (hv : Int) = (pp : Int) ∧ pp ≤ hv ∧ hf * hv = pp := by
    refine ⟨hf * hv, by simp, ?_, rfl⟩
    rcases (by omega : hf = 0 ∨ hf = 1) with rfl | rfl <;> simp
  have w6 : IntKind.i64.wrap ((hf : Int) * (hv : Int)) = (pp : Int) := by rw [hpp]; exact wrap64 pp (by omega)
  rw [hpn]
  clear hpn
  generalize hRR : (if (crc (List.take sz (sect D (2 + pp) (up64 sz))) == c) = true then _ else none) = R
  have RR := Lib.hid hRR
  clear hRR
  have HHV := Lib.hid hhv
  have HNOW := Lib.hid hnow
  clear hhv hnow
  go_enter Tryz.func42, Tryz.ntmps42
  go_wp2_with fail
  refine hr.mono ?_
  rintro e w1 ⟨rfl, rfl⟩
  go_wp2_with fail
  refine hx.mono ?_
  rintro e w1 ⟨rfl, rfl⟩
  go_wp2_with fail
  clear hr hx
  go_region_held3 (fun _ => True) (trivial) ((go_at_call 63; refine (value_any _ (by assumption) _).mono ?_; rintro e w' ⟨rfl, rfl⟩))
  go_wp2_with fail
  have H46 : ∀ W, Below w1.heap.size w1 W → Calls Tryz.prog 46 #[.int .u32 k, .int .i64 hf, .int .i64 sz, .int .u32 c] W fun e w' => e = .returned (encStr hs) ∧ Below w1.heap.size w1 w' :=
    fun W hW => (HA W).mono (fun e w' h => ⟨h.1, hW.trans (h.2.mono hW.size)⟩)
  have H44 : ∀ W, Below w1.heap.size w1 W → Calls Tryz.prog 44 #[.pointer (some ⟨a, 0, none⟩)] W fun e w' => e = .returned (.int .i64 hv) ∧ Below w1.heap.size w1 w' :=
    fun W hW => (HH W (h.step hW)).mono (fun e w' h => ⟨h.1, h.2 ▸ hW⟩)
  have hC : Below w1.heap.size w1 w1.drew.drew := Below.drew (Below.drew (Below.refl _ _))
  have HHH := Lib.hid HH
  clear HA HH q1 q2 q3 q4 s1 s2 s3 s4 l1 l2 l3 l4
  refine region_class (fun W => Below w1.heap.size w1 W) (by kernel_rfl) (by kernel_rfl) hC ?_
  repeat (
    refine wpQuiet_step (fun K hK => ?_)
    go_simp
    first
      | (refine hK _ ?_; clear hK K)
      | (apply Exists.intro
         refine ⟨fun W hW => ?_, hK _ ?_⟩
         (first | rfl | (go_at_call 46; exact H46 W hW) | (go_at_call 44; exact H44 W hW))
         clear hK K))
  refine wpQuiet_nil ?_
  intro w2 hW
  clear H46 hC s5 hq
  have BW : ∀ i : Nat, i ≤ 10000 → IntKind.i64.wrap ((i : Int) * 64) = (i : Int) * 64 := fun i hi => by have := wrap64 (i * 64) (by omega); simpa using this
  have BWH := Lib.hid BW
  clear BW
  go_wp2_with fail
  have P0 : Below w1.heap.size w1 (w2.alloc (.cells #[.pointer none, .slice none 0 0] 103)) ∧ Lib.IsBuilder 103 5 w1.heap.size w2.heap.size (Lib.byteCells (sect D (2 + pp) 0)) (w2.alloc (.cells #[.pointer none, .slice none 0 0] 103)) :=
    ⟨hW.alloc hW.size _, .inl ⟨hW.size, .slice none 0 0, (Blk.new w2 [.pointer none, .slice none 0 0] 103), ⟨rfl, .inl ⟨rfl, rfl⟩⟩, by simp [Value.ownBlock]⟩⟩
  have hup : sz ≤ up64 sz * 64 ∧ up64 sz * 64 < sz + 64 := by unfold up64; omega
  generalize up64 sz = m at *
  go_loopw [13] (fun v13 wr => ∃ i : Nat, i ≤ m ∧ v13 = .int .i64 i ∧ Below w1.heap.size w1 wr ∧ Lib.IsBuilder 103 5 w1.heap.size w2.heap.size (Lib.byteCells (sect D (2 + pp) i)) wr) (fun v13 _ => m - (intOf v13).toNat)
  case atStart => exact ⟨0, Nat.zero_le _, rfl, P0⟩
  case round =>
    obtain ⟨i, hi, rfl, hbw, hbd⟩ := hrel
    have w7 := BWH.out i (by omega)
    clear P0
    by_cases hlt : i < m
    · have p3 : i * 64 < sz := by omega
      have hDw := h.step hbw
      have hl2 : 2 + pp + i < D.now.length := by have := HHV.out; omega
      clear H44 h
      go_wp2_with fail
      refine (HHH.out _ hDw).mono ?_
      rintro e w3 ⟨rfl, rfl⟩
      go_wp2_with fail
      refine (read_any B a D S _ _ hDw ?_ ?_).mono ?_
      · omega
      · omega
      rintro e w3 ⟨rfl, rfl⟩
      go_wp2_with fail
      refine (writeString_any w1.heap.size w2.heap.size _ ⟨(D.now[2 + pp + i]).toArray⟩ w3 hbd ?_ hbw.size).mono ?_
      · have e1 := sect_length HNOW.out (2 + pp) i (by omega)
        have e2 : (⟨(D.now[2 + pp + i]).toArray⟩ : ByteArray).size = 64 := by have := HNOW.out _ (List.getElem_mem hl2); show (D.now[2 + pp + i]).toArray.size = 64; simpa using this
        rw [e2]
        simp [Lib.byteCells, e1]; omega
      rintro e w4 ⟨rfl, hB4, hb4', -⟩
      have hbd' : Lib.IsBuilder 103 5 w1.heap.size w2.heap.size (Lib.byteCells (sect D (2 + pp) (i + 1))) w4 := by
        right
        have e3 : Lib.byteCells (sect D (2 + pp) (i + 1)) = Lib.byteCells (sect D (2 + pp) i) ++ Lib.strCells ⟨(D.now[2 + pp + i]).toArray⟩ := by
          rw [sect_snoc]; simp [Lib.byteCells, Lib.strCells, hl2]
        rw [e3]; exact hB4
      clear hB4 hbd
      go_wp2_with fail
      go_round
      case rel => exact ⟨i + 1, by omega, by go_num, hbw.trans hb4', hbd'⟩
      case measure => simp [intOf]; omega
    · have him : i = m := by omega
      subst him
      have p3 : ¬ i * 64 < sz := by omega
      have hle : sz ≤ (sect D (2 + pp) i).length := by rw [sect_length HNOW.out (2 + pp) i (by have := HHV.out; omega)]; omega
      have hsz := Lib.hid hle
      have sl := fun W => slice_to_run (sect D (2 + pp) i) sz sz rfl hle W
      have hbl : (List.take sz (sect D (2 + pp) i)).length ≤ 1000000 := by simp; omega
      have RR2 := RR.out
      clear RR hlt hle hpp hpl w6
      generalize sect D (2 + pp) i = whole at *
      generalize List.take sz whole = bb at *
      have RR := Lib.hid RR2
      clear RR2
      go_wp2_with fail
      refine (Tryz.Builder_String_any w1.heap.size w2.heap.size whole wr hbd hbw.size).mono ?_
      rintro e w3 ⟨rfl, hb3⟩
      have hb13 := hbw.trans hb3
      clear hbd
      go_wp2_with fail
      refine (crc_any bb (by omega) _).mono ?_
      rintro e w4 ⟨rfl, hb4'⟩
      have hcell : Blk (w3.alloc (.cells #[.string ⟨bb.toArray⟩] 9)) w3.heap.size [encStr bb] 9 := Blk.new w3 [encStr bb] 9
      have hblk4 := hcell.step (Step.of_below hb4' Nil) (fun h => h)
      have hb14 : Below w1.heap.size w1 w4 := (hb13.alloc hb13.size _).trans (hb4'.mono (by have := hb13.size; simp; omega))
      have RR2 := RR.out
      clear RR hcell
      have hlt4 := hblk4.lt
      have hbs : w1.heap.size ≤ w3.heap.size := hb13.size
      generalize w3.heap.size = bs at *
      clear hb4' hb3 hb13 hbw
      generalize crc bb = cc at *
      by_cases hcc : cc = c
      · subst hcc
        simp only [beq_self_eq_true, if_true] at RR2
        have RR := Lib.hid RR2
        clear RR2
        have hmk : (Instr.makeMap 74 none).run Tryz.prog w4 = .ok (.map (some w4.heap.size)) (w4.alloc (.map #[] 0)) := run_makeMap 74 w4
        go_wp2_with fail
        have P1 : ParseAt w1 bs (w4.heap.size + 1) a w4.heap.size k hf bb ((w4.alloc (.map #[] 0)).alloc (.cells #[.pointer (some ⟨a, 0, none⟩), .map (some w4.heap.size), .int .u32 k, .int .i64 hf, .bool false] 77)) bb [] := by
          have hz := hb14.size
          refine ⟨(hb14.alloc hz _).alloc (by simp; omega) _, (hblk4.alloc _).alloc _, hbs, by omega, by omega, ?_, World.ownsMap.alloc (map_made w4) _, by simp, rfl⟩
          have := Blk.new (w4.alloc (.map #[] 0)) [.pointer (some ⟨a, 0, none⟩), .map (some w4.heap.size), .int .u32 k, .int .i64 hf, .bool false] 77
          simpa using this
        clear hblk4 hlt4 hmk hb14 HHH HHV HNOW BWH h H44 hW sl hsz
        generalize w4.heap.size + 1 = s at *
        generalize w4.heap.size = mb at *
        generalize ((w4.alloc (.map #[] 0)).alloc (.cells #[.pointer (some ⟨a, 0, none⟩), .map (some mb), .int .u32 k, .int .i64 hf, .bool false] 77)) = W0 at *
        generalize w2.heap.size = bb0 at *
        go_loopw [18] (fun _ wr => ∃ r L, ParseAt w1 bs s a mb k hf bb wr r L) (fun _ wr => match wr.cell? ⟨bs, 0, none⟩ with | some (.string x) => x.size | _ => 0)
        case atStart => exact ⟨bb, [], P1⟩
        case round =>
          obtain ⟨r, L, hP⟩ := hrel
          clear P1
          have q0 : wr.cell? ⟨bs, 0, none⟩ = some (encStr r) := hP.cell.cell 0
          have q1 : wr.cell? ⟨s, 1, none⟩ = some (.map (some mb)) := hP.blk.cell 1
          have hrl : r.length ≤ 1000000 := by have := hP.len; omega
          by_cases hr0 : r = []
          · subst hr0
            have hR := RR.out
            have he := hP.eq
            simp only [parse, List.length_nil, if_true] at he
            rw [← he] at hR
            simp only [Option.map_some] at hR
            subst hR
            have hend : ReadPost w1 a (some (L, k, hf)) (.returned (.tuple #[.pointer (some ⟨s, 0, none⟩), .bool true])) wr := ⟨s, mb, rfl, hP.below, hP.ls, hP.lm, hP.blk, hP.map⟩
            clear RR he
            go_wp2_with fail
            go_ret2
            exact hend
          · have hie : r.isEmpty = false := by simpa using hr0
            cases h1 : takeS r with
            | none =>
              have hR := RR.out
              rw [← hP.eq, parse_none L hr0 h1] at hR
              simp only [Option.map_none] at hR
              subst hR
              have hc := hP.cell
              have hb := hP.below
              clear hP
              go_wp2_with fail
              refine (take_any bs r wr hc hrl).mono ?_
              intro e w5 ht
              unfold TakePost at ht
              rw [h1] at ht
              obtain ⟨rfl, rfl⟩ := ht
              go_wp2_with fail
              refine (take_any bs r w5 hc hrl).mono ?_
              intro e w6 ht
              unfold TakePost at ht
              rw [h1] at ht
              obtain ⟨rfl, rfl⟩ := ht
              go_wp2_with fail
              go_ret2
              exact ⟨rfl, hb⟩
            | some p =>
              obtain ⟨nm, r1⟩ := p
              have l1 := takeS_len h1
              obtain ⟨b1, c1, s1, m1⟩ := hP.take r1
              cases h2 : takeS r1 with
              | none =>
                have hR := RR.out
                rw [← hP.eq, parse_none2 L hr0 h1 h2] at hR
                simp only [Option.map_none] at hR
                subst hR
                have hc := hP.cell
                clear hP
                go_wp2_with fail
                refine (take_any bs r wr hc hrl).mono ?_
                intro e w5 ht
                unfold TakePost at ht
                rw [h1] at ht
                obtain ⟨rfl, rfl⟩ := ht
                go_wp2_with fail
                refine (take_any bs r1 _ c1 (by omega)).mono ?_
                intro e w6 ht
                unfold TakePost at ht
                rw [h2] at ht
                obtain ⟨rfl, rfl⟩ := ht
                go_wp2_with fail
                go_ret2
                exact ⟨rfl, b1⟩
              | some p2 =>
                obtain ⟨t, r2⟩ := p2
                have l2 := takeS_len h2
                obtain ⟨w7, hrun, hP7⟩ := hP.next hr0 hbl h1 h2
                have hc := hP.cell
                have hnx : ((wr.setCell ⟨bs, 0, none⟩ (encStr r1)).setCell ⟨bs, 0, none⟩ (encStr r2)).cell? ⟨s, 1, none⟩ = some (.map (some mb)) := by
                  have hne : bs ≠ s := by
                    rintro rfl
                    have h1 := hP.cell; have h2 := hP.blk
                    unfold Blk at h1 h2
                    rw [h1] at h2
                    simp at h2
                  exact (s1.set_other ⟨bs, 0, none⟩ hne (encStr r2)).cell 1
                clear hP s1 m1 b1
                go_wp2_with fail
                refine (take_any bs r wr hc hrl).mono ?_
                intro e w5 ht
                unfold TakePost at ht
                rw [h1] at ht
                obtain ⟨rfl, rfl⟩ := ht
                go_wp2_with fail
                refine (take_any bs r1 _ c1 (by omega)).mono ?_
                intro e w6 ht
                unfold TakePost at ht
                rw [h2] at ht
                obtain ⟨rfl, rfl⟩ := ht
                have hm7 : Blk w7 bs [encStr r2] 9 := hP7.cell
                have q7 : w7.cell? ⟨bs, 0, none⟩ = some (.string ⟨r2.toArray⟩) := hm7.cell 0
                have q0' : wr.cell? ⟨bs, 0, none⟩ = some (.string ⟨r.toArray⟩) := q0
                clear q0
                go_wp2_with fail
                go_round
                case rel => exact ⟨r2, _, hP7⟩
                case measure => rw [q7, q0']; show r2.toArray.size < r.toArray.size; simp; omega
      · have hcc1 : (cc == c) = false := by simpa using hcc
        rw [hcc1] at RR2
        simp only [Bool.false_eq_true, if_false] at RR2
        subst RR2
        go_wp2_with fail
        go_ret2
        exact ⟨rfl, hb14⟩
theorem read2_any (B : Nat) (a : Nat) (D : Dsk) (S : Nat → Prop) (n : Nat) (w : World) (h : DiskAt B w a D S) (hn : n < D.now.length) (h2 : 2 ≤ D.now.length) :
    Calls Tryz.prog 42 #[.pointer (some ⟨a, 0, none⟩), .int .i64 n] w (ReadPost w a (readS D n)) := by
  cases hk : headOk D (D.now.getD n []) with
  | true =>
    have hp : Lib.hasPrefix (D.now.getD n []) cake = true := by
      unfold headOk at hk
      simp only [Bool.and_eq_true] at hk
      exact hk.1.1.1
    exact read_rest B a D S n w h hn h2 hp hk
  | false =>
    have hr : readS D n = none := by unfold readS; simp only [hk]; rfl
    rw [hr]
    cases hp : Lib.hasPrefix (D.now.getD n []) cake with
    | false => exact read_none1 B a D S n w h hn hp
    | true => exact read_none2 B a D S n w h hn h2 hp hk
end Go.Proofs.YtokfddlknhijbaaGreatDoor
