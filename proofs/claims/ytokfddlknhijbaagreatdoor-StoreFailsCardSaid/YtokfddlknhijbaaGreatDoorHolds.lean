/- The laws' own holds: has a store just these texts? -/
import Derived.Test.YtokfddlknhijbaaGreatDoorHold
import Derived.Test.YtokfddlknhijbaaGreatDoorLaw6
namespace Go.Proofs.YtokfddlknhijbaaGreatDoor
open Go Go.RowKit Go.Maps
set_option maxHeartbeats 1000000 in
set_option maxRecDepth 100000 in
/-- The same texts, or not: of two rows of strings. -/
theorem same2_any (v u : Value) (a b : List Str) (w : World) (h : w.ownsRow 0 9 1 v a.length (a.map encStr)) (h' : w.ownsRow 0 9 1 u b.length (b.map encStr)) (hl : a.length ≤ 1000) (hl' : b.length ≤ 1000) (R : Bool) (hR : R = decide (a = b)) :
    Calls Tryz.prog 40 #[v, u] w fun e w' => e = .returned (.bool R) ∧ ∃ n, w' = w.drewN n := by
  obtain ⟨A, c, rfl⟩ := row_slice h
  obtain ⟨A', c', rfl⟩ := row_slice h'
  have r1 : a = b → R = true := fun e => by rw [hR]; simpa using e
  have r0 : a ≠ b → R = false := fun e => by rw [hR]; simpa using e
  clear hR
  have R1 := Lib.hid r1
  have R0 := Lib.hid r0
  clear r1 r0
  by_cases hlen : a.length = b.length
  · have hli : ((a.length : Int) == (b.length : Int)) = true := by simp [hlen]
    have hli2 : ((a.length : Int) != (b.length : Int)) = false := by simp [hlen]
    have HL := Lib.hid hlen
    clear hlen
    go_enter Tryz.func40, Tryz.ntmps40
    go_wp2
    go_loopw [5] (fun v5 wr => ∃ k : Nat, k ≤ a.length ∧ v5 = .int .i64 k ∧ a.take k = b.take k ∧ ∃ n, wr = w.drewN n) (fun v5 _ => a.length - (intOf v5).toNat)
    case atStart => exact ⟨0, Nat.zero_le _, rfl, rfl, 0, rfl⟩
    case round =>
      obtain ⟨k, hk, rfl, htk, n, rfl⟩ := hrel
      by_cases hlt : k < a.length
      · have hltb : k < b.length := by have := HL.out; omega
        obtain ⟨g, c1, hg, -, -, -⟩ := row_form h (by omega)
        simp only [Value.slice.injEq, true_and] at hg
        obtain ⟨rfl, -⟩ := hg
        obtain ⟨g', c1', hg, -, -, -⟩ := row_form h' (by omega)
        simp only [Value.slice.injEq, true_and] at hg
        obtain ⟨rfl, -⟩ := hg
        have z0 : w.cell? ⟨g, k, none⟩ = some (encStr a[k]) := by rw [h.cellAt _ (by omega)]; simp [hlt]
        have z1 : w.cell? ⟨g', k, none⟩ = some (encStr b[k]) := by rw [h'.cellAt _ (by omega)]; simp [hltb]
        have hk2 : (k : Int) < (a.length : Int) := by omega
        have hk3 : (k : Int) < (b.length : Int) := by omega
        by_cases he : a[k] = b[k]
        · have hn2 : a.take (k + 1) = b.take (k + 1) := by rw [List.take_succ_eq_append_getElem hlt, List.take_succ_eq_append_getElem hltb, htk, he]
          have HN := Lib.hid hn2
          rw [← he] at z1
          clear h h' htk hn2 he
          generalize a[k] = x at *
          go_wp2
          go_quiet (fail)
          go_wp2
          go_roundw
          case rel => exact ⟨k + 1, by omega, by go_num, HN.out, n + nq, rfl⟩
          case measure => simp [intOf]; omega
        · have hne : R = false := R0.out (fun e => he (by subst e; rfl))
          have hb : (a[k] == b[k]) = false := by simp [he]
          have hb2 : (a[k] != b[k]) = true := by simp [he]
          subst hne
          clear h h' htk he
          generalize a[k] = x at *
          generalize b[k] = y at *
          go_wp2
          go_quiet (fail)
          go_wp2
          go_ret
          exact ⟨rfl, n + nq, by simp⟩
      · obtain rfl : k = a.length := by omega
        have hab : a = b := by
          have := HL.out
          rw [List.take_length, this, List.take_length] at htk
          exact htk
        have hne := R1.out hab
        subst hne
        clear htk hab
        go_wp2
        go_ret
        exact ⟨rfl, n, rfl⟩
  · have hne : R = false := R0.out (fun e => hlen (by rw [e]))
    subst hne
    have hli : ((a.length : Int) == (b.length : Int)) = false := by simp; omega
    have hli2 : ((a.length : Int) != (b.length : Int)) = true := by simp; omega
    go_enter Tryz.func40, Tryz.ntmps40
    go_wp2
    go_ret
    exact ⟨rfl, 0, rfl⟩

/-- Between two rounds of holds. -/
structure HoldsAt (w : World) (L l : List Txt) (names : Value) (i : Nat) (wr : World) : Prop where
  names : wr.ownsRow w.heap.size 9 1 names i ((l.take i).map fun x => encStr x.1)
  below : Below w.heap.size w wr
  same : ∀ j (h : j < l.length), j < i → look L (l[j]).1 = (l[j]).2
theorem TextsAt.below {w w' : World} {v : Value} {l : List Txt} (h : TextsAt w v l) (hb : Below w.heap.size w w') : TextsAt w' v l := row_step h (Step.of_below hb Nil) (fun _ _ h => h)
theorem TextsAt.grown {w w' : World} {v : Value} {l : List Txt} {row : Option Nat} (h : TextsAt w v l) (hg : w.grownBy w' row) (hr : ∀ k, v.ownBlock = some k → row ≠ some k) : TextsAt w' v l := by
  refine h.kept hg ?_
  cases hv : v.ownBlock with
  | none => exact .inl rfl
  | some k => exact .inr (fun e => hr k hv e.symm)
theorem look_mem {L : List Txt} (hr : Rising L) {l : List Txt} (hn : L.map (·.1) = l.map (·.1)) (hs : ∀ j (h : j < l.length), look L (l[j]).1 = (l[j]).2) : L = l := by
  have hlen : L.length = l.length := by have := congrArg List.length hn; simpa using this
  apply List.ext_getElem hlen
  intro i h1 h2
  have e1 : (L[i]).1 = (l[i]).1 := by
    have := congrArg (fun x : List Str => x[i]?) hn
    simpa [h1, h2] using this
  have e2 := look_at hr i h1
  have e3 := hs i h2
  rw [← e1, e2] at e3
  exact Prod.ext e1 e3
theorem look_self {L : List Txt} (hr : Rising L) (i : Nat) (h : i < L.length) : hasT L (L[i]).1 = true ∧ look L (L[i]).1 = (L[i]).2 := by
  refine ⟨?_, look_at hr i h⟩
  unfold hasT
  rw [List.any_eq_true]
  exact ⟨L[i], List.getElem_mem h, by simp⟩
set_option maxHeartbeats 2000000 in
set_option maxRecDepth 100000 in
theorem holds_any (B : Nat) (E : Nat → Addr) (s a mb : Nat) (D : Dsk) (L : List Txt) (k h : Nat) (dead : Bool) (S : Nat → Prop) (v : Value) (l : List Txt) (w : World) (H : StoreIn B w s a mb D L k h dead S) (hE : Env B E w) (hv : TextsAt w v l)
    (hr : Rising L) (hL : L.length ≤ 1000) (hl : l.length ≤ 1000) (hln : ∀ x ∈ l, x.1.length ≤ 1000000) (R : Bool) (hR : R = decide (L = l)) :
    Calls Tryz.prog 18 #[.pointer (some ⟨s, 0, none⟩), v] w fun e w' => e = .returned (.bool R) ∧ Below w.heap.size w w' := by
  obtain ⟨A, c, rfl⟩ := row_slice hv
  have r1 : L = l → R = true := fun e => by rw [hR]; simpa using e
  have r0 : L ≠ l → R = false := fun e => by rw [hR]; simpa using e
  have P0 : HoldsAt w L l (.slice none 0 0) 0 w := ⟨World.ownsRow_nil _ _ _ _, Below.refl _ _, fun j _ h => absurd h (by omega)⟩
  have hvl : ∀ b, A = some b → b.block < w.heap.size := fun b e => row_lt hv (by rw [e]; rfl)
  obtain ⟨i0, hi, hz0, hz1, hz2⟩ := info_parts (show (Tryz.prog.info? 9).map (fun i => (i.zero, i.size, i.bytes)) = some (some (.string ⟨#[]⟩), 1, 16) by kernel_rfl)
  clear hR
  have R1 := Lib.hid r1
  have R0 := Lib.hid r0
  clear r1 r0
  go_enter Tryz.func18, Tryz.ntmps18
  go_wp2_with fail
  go_loopw [5, 6] (fun v5 v6 wr => ∃ i : Nat, i ≤ l.length ∧ v6 = .int .i64 i ∧ HoldsAt w L l v5 i wr) (fun _ v6 _ => l.length - (intOf v6).toNat)
  case atStart => exact ⟨0, Nat.zero_le _, rfl, P0⟩
  case round =>
    obtain ⟨i, hi', rfl, hA⟩ := hrel
    clear P0
    by_cases hlt : i < l.length
    · have htx := hv.below hA.below
      obtain ⟨g, c', hg, -, hgl, -⟩ := row_form htx (by omega)
      simp only [Value.slice.injEq, true_and] at hg
      obtain ⟨rfl, -⟩ := hg
      have hgw : g < w.heap.size := hvl _ rfl
      have hltI : (i : Int) < (l.length : Int) := by omega
      have z0 : wr.cell? ⟨g, i * 2, none⟩ = some (encStr (l[i]).1) := by rw [htx.cellAt _ (by omega)]; exact (tcells_at l i hlt).1
      have z1 : wr.cell? ⟨g, i * 2 + 1, none⟩ = some (encStr (l[i]).2) := by rw [htx.cellAt _ (by omega)]; exact (tcells_at l i hlt).2
      have hxl : (l[i]).1.length ≤ 1000000 := hln _ (List.getElem_mem hlt)
      have hts : ((l.take (i + 1)).map fun x => encStr x.1) = ((l.take i).map fun x => encStr x.1) ++ [encStr (l[i]).1] := by rw [List.take_succ_eq_append_getElem hlt, List.map_append]; rfl
      have hmiss : (hasT L (l[i]).1 = false ∨ look L (l[i]).1 ≠ (l[i]).2) → R = false := fun h0 => R0.out (fun e => by
        subst e
        obtain ⟨e1, e2⟩ := look_self hr i hlt
        rcases h0 with h0 | h0
        · rw [e1] at h0; cases h0
        · exact h0 e2)
      have hsame2 : look L (l[i]).1 = (l[i]).2 → ∀ j (h : j < l.length), j < i + 1 → look L (l[j]).1 = (l[j]).2 := fun h2 j hj hji => by
        rcases Nat.lt_or_ge j i with h3 | h3
        · exact hA.same j hj h3
        · have : j = i := by omega
          subst this; exact h2
      have HM := Lib.hid hmiss
      have HS := Lib.hid hsame2
      have HT := Lib.hid hts
      clear hmiss hsame2 hts hr hln hvl R0 htx hv
      generalize hx : (l[i]).1 = x at *
      generalize hy : (l[i]).2 = y at *
      clear hx hy
      have hbl := hA.below
      have hnm := hA.names
      clear hA
      go_wp2_with (at_builtin; refine wpList_append_own_at _ rfl _ _ 64 rfl w.heap.size 9 i0 (.string ⟨#[]⟩) 1 16 Tryz.underlying64 hi hz0 hz1 hz2 rfl (by decide) _ _ _ rfl (hnm.alloc _) ⟨wr.heap.size, 0, none⟩ 1 1 [encStr x] rfl rfl ?c1 ?c2 ?c3 ?c4 ?c5 ?_)
      case c1 => exact new_cells _ [encStr x] 9 _ rfl
      case c2 => intro u hu; simp at hu; rcases hu with rfl; rfl
      case c3 => unfold maxLen; omega
      case c4 => omega
      case c5 => have := hbl.size; simp; omega
      intro v4 w4 hown4 hgr4 _ _
      have hb4 : Below w.heap.size w w4 := (hbl.alloc hbl.size _).grown hgr4 (by have := hbl.size; simp; omega) (fun k hk => (hnm.lt k hk).1)
      have y0 : w4.cell? ⟨g, i * 2, none⟩ = some (encStr x) := by
        rw [(hb4.cell (p := ⟨g, i * 2, none⟩) hgw), ← (hbl.cell (p := ⟨g, i * 2, none⟩) hgw)]; exact z0
      have hgt := get2_any B E s a mb D L k h dead S x w4 (H.step hb4) (hE.below (hb4.mono hE.size)) hxl
      obtain ⟨Av, cv, rfl⟩ := row_slice hown4
      clear hgr4 hnm z0
      cases hh : hasT L x with
      | false =>
        have hR0 := HM.out (.inl hh)
        subst hR0
        rw [show getC L x = 6 by simp [getC, hh]] at hgt
        generalize getS L x = gs at *
        clear HM HS HT hown4
        go_wp2_with fail
        refine hgt.mono ?_
        rintro e w5 ⟨rfl, hb5⟩
        obtain ⟨q, hq⟩ := errv_ne E 6 (by omega)
        simp only [hq]
        clear hq hgt
        go_wp2_with fail
        go_ret
        exact ⟨rfl, hb4.trans (hb5.mono hb4.size)⟩
      | true =>
        rw [show getC L x = 0 by simp [getC, hh], show getS L x = look L x by simp [getS, hh]] at hgt
        by_cases hxy : look L x = y
        · rw [hxy] at hgt
          have hS2 := HS.out hxy
          have hnm5 : w4.ownsRow w.heap.size 9 1 (.slice Av (i + 1) cv) (i + 1) ((l.take (i + 1)).map fun x => encStr x.1) := by rw [HT.out, List.map_take]; exact hown4
          have HS2 := Lib.hid hS2
          have hev : errv E 0 = .nilIface := rfl
          rw [hev] at hgt
          clear HM HS HT hown4 hxy hh hev hS2
          go_wp2_with fail
          refine hgt.mono ?_
          rintro e w5 ⟨rfl, hb5⟩
          have hb05 := hb4.trans (hb5.mono hb4.size)
          have x1 : w5.cell? ⟨g, i * 2 + 1, none⟩ = some (encStr y) := by
            rw [(hb05.cell (p := ⟨g, i * 2 + 1, none⟩) hgw), ← (hbl.cell (p := ⟨g, i * 2 + 1, none⟩) hgw)]; exact z1
          have hyy : (y == y) = true := by simp
          have hyy2 : (y != y) = false := by simp
          have hfin : HoldsAt w L l (.slice Av (i + 1) cv) (i + 1) w5 := ⟨row_step hnm5 (Step.of_below hb5 Nil) (fun _ _ h => h), hb05, HS2.out⟩
          clear hgt hnm5 z1
          go_wp2_with fail
          go_round
          case rel => exact ⟨i + 1, by omega, by go_num, hfin⟩
          case measure => simp [intOf]; omega
        · have hR0 := HM.out (.inr hxy)
          subst hR0
          have hev : errv E 0 = .nilIface := rfl
          rw [hev] at hgt
          have hne : (look L x == y) = false := by simp [hxy]
          have hne2 : (look L x != y) = true := by simp [hxy]
          clear HM HS HT hown4 hxy hev
          generalize look L x = lx at *
          go_wp2_with fail
          refine hgt.mono ?_
          rintro e w5 ⟨rfl, hb5⟩
          have hb05 := hb4.trans (hb5.mono hb4.size)
          have x1 : w5.cell? ⟨g, i * 2 + 1, none⟩ = some (encStr y) := by
            rw [(hb05.cell (p := ⟨g, i * 2 + 1, none⟩) hgw), ← (hbl.cell (p := ⟨g, i * 2 + 1, none⟩) hgw)]; exact z1
          clear hgt z1
          go_wp2_with fail
          go_ret
          exact ⟨rfl, hb05⟩
    · obtain rfl : i = l.length := by omega
      have H1 := H.step hA.below
      have hnm := names_any s mb _ _ _ _ L wr H1.blk H1.map hr (by omega)
      have hrow := hA.names
      have hbl := hA.below
      rw [List.take_length] at hrow
      have hRR : R = decide (L.map (·.1) = l.map (·.1)) := by
        by_cases e : L.map (·.1) = l.map (·.1)
        · rw [R1.out (look_mem hr e (fun j hj => hA.same j hj hj))]; simp [e]
        · rw [R0.out (fun e2 => e (by rw [e2]))]; simp [e]
      have hkk : ¬ (l.length : Int) < (l.length : Int) := by omega
      have HRR := Lib.hid hRR
      clear hA H H1 hRR R0 R1 hr hvl hv
      go_wp2_with fail
      refine hnm.mono ?_
      rintro e w2 ⟨v2, rfl, hv2, hb2⟩
      have hrow2 := row_step hrow (Step.of_below hb2 Nil) (fun _ _ h => h)
      have hsm := same2_any v2 _ (L.map (·.1)) (l.map (·.1)) w2 (by have := own_base hv2; simpa [Function.comp_def] using this) (by have := own_base hrow2; simpa [Function.comp_def] using this) (by simpa using hL) (by simpa using hl) R HRR.out
      clear hnm hrow hrow2
      obtain ⟨A2, c2, rfl⟩ := row_slice hv2
      clear hv2
      go_wp2_with fail
      refine hsm.mono ?_
      rintro e w3 ⟨rfl, n, rfl⟩
      have hb3 : Below w.heap.size w (w2.drewN n) := hbl.trans ((below_drewN hb2 n).mono hbl.size)
      clear hsm
      go_wp2_with fail
      go_ret
      exact ⟨rfl, hb3⟩
end Go.Proofs.YtokfddlknhijbaaGreatDoor
