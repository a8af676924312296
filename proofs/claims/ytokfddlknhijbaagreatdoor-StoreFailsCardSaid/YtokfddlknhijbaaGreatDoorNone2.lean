/- StoreNone at whatever input; a slice of acts, of bools, among the arguments. -/
import Derived.Test.YtokfddlknhijbaaGreatDoorNone
import Derived.Test.YtokfddlknhijbaaGreatDoorArgs
namespace Go.Proofs.YtokfddlknhijbaaGreatDoor
open Go Go.RowKit Go.Maps Go.ChangeShapes Go.WideShapes Go.Deep
set_option maxHeartbeats 4000000 in
set_option maxRecDepth 100000 in
theorem none_out (B : Nat) (E : Nat → Addr) (w : World) (hE : Env B E w) (A : Option Addr) (c : Nat) (l : List Actn) (n : Int) (hl : ActsAt w.heap.size w A l) (hll : l.length ≤ 140737488355328) (h1 : n < 8 ∨ 100 < n) :
    Calls Tryz.prog 5 #[.slice A l.length c, .int .i64 n] w (HoldPost w) := by
  have hho := hold_any _ E w hE
  go_enter Tryz.func5, Tryz.ntmps5
  go_wp2_with fail
  refine hho.mono ?_
  rintro e w1 ⟨rfl, hb1⟩
  have hli := few_any w.heap.size A c l w1 (hl.below hb1) hll
  clear hho
  go_wp2_with fail
  refine hli.mono ?_
  rintro e w2 ⟨b, rfl, hlt, rfl⟩
  clear hli hlt
  cases b with
  | false =>
    go_wp2_with fail
    go_ret
    exact ⟨rfl, hb1⟩
  | true =>
    by_cases h2 : n < 8
    · clear h1
      go_wp2_with fail
      go_ret
      exact ⟨rfl, hb1⟩
    · have h3 : 100 < n := by omega
      clear h1
      go_wp2_with fail
      go_ret
      exact ⟨rfl, hb1⟩
theorem none_all (B : Nat) (E : Nat → Addr) (w : World) (hE : Env B E w) (A : Option Addr) (c : Nat) (l : List Actn) (n : Int) (hl : ActsAt w.heap.size w A l) (hll : l.length ≤ 140737488355328) :
    Calls Tryz.prog 5 #[.slice A l.length c, .int .i64 n] w (HoldPost w) := by
  by_cases h1 : n < 8 ∨ 100 < n
  · exact none_out B E w hE A c l n hl hll h1
  · obtain ⟨m, rfl⟩ := Int.eq_ofNat_of_zero_le (show 0 ≤ n by omega)
    exact none_any B E w hE A c l m hl hll (by omega) (by omega)

theorem Tz.cells51 : Tryz.prog.cellsOf 51 = 4 := by kernel_rfl
theorem Tz.bytes51 : Tryz.prog.bytesOf 51 = 64 := by kernel_rfl
theorem Tz.cells3 : Tryz.prog.cellsOf 3 = 1 := by kernel_rfl
theorem Tz.cells49 : Tryz.prog.cellsOf 49 = 1 := by kernel_rfl
theorem Tz.cells4 : Tryz.prog.cellsOf 4 = 1 := by kernel_rfl
theorem Tz.bytes4 : Tryz.prog.bytesOf 4 = 1 := by kernel_rfl
instance : Inhabited Actn := ⟨⟨[], 0, [], none, 0, 0, []⟩⟩
section
variable {H : Type} {enc : TypeId × Value → H} {W : World} {spare : Nat → Bool} {held : Bool}
/-- A slice of bools. -/
theorem open_bools_cells {fuel : Nat} {cs : List Value} {x : DataW H × List MemPlace} (hf : DataW.trod enc Tryz.prog W 0 spare held fuel 49 cs = some x) (hw : ∀ n ∈ x.1.weights Tryz.prog 49, n ≤ reachBytes) :
    ∃ (A : Option Addr) (c : Nat) (l : List Bool), cs = [.slice A l.length c] ∧ BoolsAt W.heap.size W A l ∧ l.length ≤ 140737488355328 := by
  rcases open_slice1 Tryz.underlying49 Tz.cells4 hf with ⟨rfl, -⟩ | ⟨a, len, cap, m, n, V, D, Pl, rfl, -, hlc, hcm, hm, rfl, hel⟩
  · exact ⟨none, 0, [], rfl, (fun h => absurd h (Nat.lt_irrefl _)), Nat.zero_le _⟩
  · have hlm : len ≤ m := by rw [hm]; split <;> omega
    have each : ∀ i, i < len → ∃ b : Bool, W.cell? (a.add i) = some (.bool b) := by
      intro i hi
      obtain ⟨h1, h2⟩ := hel i (by omega)
      obtain ⟨b, h3, -⟩ := DataW.trod_bool Tryz.underlying4 h2
      simp at h3
      exact ⟨b, by rw [h1, h3]⟩
    obtain ⟨C, hC⟩ := choose_lt each
    have hlen : ((List.range len).map C).length = len := by simp
    have hbig : len * 1 ≤ reachBytes := by
      refine Nat.le_trans (Nat.mul_le_mul_right 1 (Nat.le_add_right len (m - len))) ?_
      refine hw _ ?_
      simp only [DataW.weights, Tryz.underlying49, Tz.bytes4, List.length_map, List.length_range, List.mem_cons, true_or]
    have hreach : reachBytes = 140737488351232 := rfl
    refine ⟨some a, cap, (List.range len).map C, by rw [hlen], ?_, by rw [hlen]; omega⟩
    intro hpos
    rw [hlen] at hpos
    have h0 := hC 0 hpos
    rw [show a.add 0 = a by simp [Addr.add]] at h0
    obtain ⟨ha, hb⟩ := plain_of_cell h0
    refine ⟨a.block, a.off, by rw [← ha], hb, fun i hi => ?_⟩
    rw [hlen] at hi
    have h1 := hC i hi
    rw [ha, add_plain] at h1
    simp only [List.getElem_map, List.getElem_range]
    exact h1
set_option maxRecDepth 100000 in
theorem open_bools {v : Value} {d : DataW H} {p : List MemPlace} {base : Nat} (hv : Value.okWide Tryz.prog W .any base 49 v) (h : DataW.Trod enc Tryz.prog W 0 spare held 49 v d p)
    (hw : ∀ n ∈ d.weights Tryz.prog 49, n ≤ reachBytes) :
    ∃ (A : Option Addr) (c : Nat) (l : List Bool), v = .slice A l.length c ∧ BoolsAt W.heap.size W A l ∧ l.length ≤ 140737488355328 := by
  obtain ⟨a0, len, cap, rfl⟩ := okWide_slice Tryz.underlying49 hv
  obtain ⟨fuel, hf⟩ := h
  obtain ⟨A, c, l, h1, h2, h3⟩ := open_bools_cells hf hw
  simp only [Value.cells, List.cons.injEq, and_true] at h1
  exact ⟨A, c, l, h1, h2, h3⟩
set_option maxRecDepth 100000 in
/-- One act. -/
theorem act_elem {n : Nat} {cs : List Value} {y : DataW H × List MemPlace} (h : DataW.trod enc Tryz.prog W 0 spare held n 51 cs = some y) (hw : ∀ k ∈ y.1.weights Tryz.prog 51, k ≤ reachBytes) :
    ∃ c : Actn, cs = [encStr c.kind, .int .i64 c.n, encStr c.s, .slice c.A c.len c.cap] ∧ ActAt W.heap.size W c := by
  obtain ⟨ys, m, -, rfl, hlen, hyl, hg⟩ := DataW.trod_struct Tryz.underlying51 h
  rw [Tz.cells51] at hlen
  match cs, hlen with
  | [v0, v1, v2, v3], _ =>
    match ys, hyl with
    | [y0, y1, y2, y3], _ =>
      have h0 : DataW.trod enc Tryz.prog W 0 spare held m 9 (([v0, v1, v2, v3].drop 0).take (Tryz.prog.cellsOf 9)) = some y0 := hg 0 _ rfl
      have h1 : DataW.trod enc Tryz.prog W 0 spare held m 3 (([v0, v1, v2, v3].drop 1).take (Tryz.prog.cellsOf 3)) = some y1 := hg 1 _ rfl
      have h2 : DataW.trod enc Tryz.prog W 0 spare held m 9 (([v0, v1, v2, v3].drop 2).take (Tryz.prog.cellsOf 9)) = some y2 := hg 2 _ rfl
      have h3 : DataW.trod enc Tryz.prog W 0 spare held m 49 (([v0, v1, v2, v3].drop 3).take (Tryz.prog.cellsOf 49)) = some y3 := hg 3 _ rfl
      rw [Tz.cells9] at h0 h2
      rw [Tz.cells3] at h1
      rw [Tz.cells49] at h3
      obtain ⟨s0, e0, f0, -⟩ := DataW.trod_string Tryz.underlying9 h0
      obtain ⟨n1, e1, f1, w1⟩ := DataW.trod_int Tryz.underlying3 h1
      obtain ⟨s2, e2, f2, -⟩ := DataW.trod_string Tryz.underlying9 h2
      have hreach : reachBytes = 140737488351232 := rfl
      have hsub : ∀ k, (k ∈ y0.1.weights Tryz.prog 9 ∨ k ∈ y2.1.weights Tryz.prog 9 ∨ k ∈ y3.1.weights Tryz.prog 49) → k ≤ reachBytes := by
        intro k hk
        refine hw k ?_
        simp only [DataW.weights, Tryz.underlying51, List.map_cons, List.map_nil, DataW.weightsEach, List.mem_append, List.append_nil]
        rcases hk with hk | hk | hk
        · exact .inl hk
        · exact .inr (.inr (.inl hk))
        · exact .inr (.inr (.inr hk))
      obtain ⟨A, c, l, e3, hB, hl3⟩ := open_bools_cells h3 (fun k hk => hsub k (.inr (.inr hk)))
      simp at e0 e1 e2 e3
      subst e0 e1 e2 e3 f0 f1 f2
      have hs := hsub s2.data.toList.length (.inr (.inl (by simp [DataW.weights])))
      have hwf := w1
      unfold Lit.wf at hwf
      simp only [Bool.and_eq_true, decide_eq_true_eq] at hwf
      have hmin : IntKind.i64.min = -9223372036854775808 := rfl
      have hmax : IntKind.i64.max = 9223372036854775807 := rfl
      rw [hmin, hmax] at hwf
      exact ⟨⟨s0.data.toList, n1, s2.data.toList, A, l.length, c, l⟩, rfl, rfl, hB, hwf, by simp only; omega, hl3⟩
set_option maxRecDepth 100000 in
theorem open_acts {v : Value} {d : DataW H} {p : List MemPlace} {base : Nat} (hv : Value.okWide Tryz.prog W .any base 47 v) (h : DataW.Trod enc Tryz.prog W 0 spare held 47 v d p)
    (hw : ∀ n ∈ d.weights Tryz.prog 47, n ≤ reachBytes) :
    ∃ (A : Option Addr) (c : Nat) (l : List Actn), v = .slice A l.length c ∧ ActsAt W.heap.size W A l ∧ l.length ≤ 140737488355328 := by
  obtain ⟨a0, len, cap, rfl⟩ := okWide_slice Tryz.underlying47 hv
  obtain ⟨fuel, hf⟩ := h
  rcases open_slice Tryz.underlying47 hf with ⟨hcs, -⟩ | ⟨a, len', cap', m, n, D, Pl, hcs, -, hlc, hcm, hm, hx, hel⟩
  · simp [Value.cells] at hcs
    obtain ⟨rfl, rfl, rfl⟩ := hcs
    exact ⟨none, 0, [], rfl, ⟨(fun h => absurd h (Nat.lt_irrefl _)), (fun c h => by cases h)⟩, Nat.zero_le _⟩
  · simp [Value.cells] at hcs
    obtain ⟨rfl, rfl, rfl⟩ := hcs
    have hlm : len ≤ m := by rw [hm]; split <;> omega
    rw [Tz.cells51] at hel
    simp only [Prod.mk.injEq] at hx
    have hd : d = .slice ((List.range len).map D) ((List.range (m - len)).map fun j => D (len + j)) := hx.1
    have hwt : ∀ i, i < len → ∀ k ∈ (D i).weights Tryz.prog 51, k ≤ reachBytes := by
      intro i hi k hk
      refine hw k ?_
      rw [hd]
      simp only [DataW.weights, Tryz.underlying47, List.mem_cons, List.mem_append]
      exact .inr (.inl (weightsAll_mem (List.mem_map.2 ⟨i, List.mem_range.2 hi, rfl⟩) k hk))
    have each : ∀ i, i < len → ∃ c : Actn, (W.cell? (a.add (i * 4)) = some (encStr c.kind) ∧ W.cell? (a.add (i * 4 + 1)) = some (.int .i64 c.n) ∧ W.cell? (a.add (i * 4 + 2)) = some (encStr c.s) ∧ W.cell? (a.add (i * 4 + 3)) = some (.slice c.A c.len c.cap)) ∧ ActAt W.heap.size W c := by
      intro i hi
      obtain ⟨cs', hc, ht⟩ := hel i (by omega)
      obtain ⟨c, rfl, hA⟩ := act_elem ht (hwt i hi)
      obtain ⟨-, -, hat⟩ := World.cells?_some hc
      have a0 := hat 0 (by omega)
      have a1 := hat 1 (by omega)
      have a2 := hat 2 (by omega)
      have a3 := hat 3 (by omega)
      rw [add_add] at a0 a1 a2 a3
      exact ⟨c, ⟨a0, a1, a2, a3⟩, hA⟩
    obtain ⟨C, hC⟩ := choose_lt each
    have hlen : ((List.range len).map C).length = len := by simp
    have hbig : (((List.range len).map D).length + ((List.range (m - len)).map fun j => D (len + j)).length) * 64 ≤ reachBytes := by
      refine hw _ ?_
      rw [hd]
      simp only [DataW.weights, Tryz.underlying47, Tz.bytes51, List.mem_cons, true_or]
    have hreach : reachBytes = 140737488351232 := rfl
    refine ⟨some a, cap, (List.range len).map C, by rw [hlen], ⟨?_, ?_⟩, ?_⟩
    · intro hpos
      rw [hlen] at hpos
      have h0 := (hC 0 hpos).1.1
      rw [Nat.zero_mul, show a.add 0 = a by simp [Addr.add]] at h0
      obtain ⟨ha, hb⟩ := plain_of_cell h0
      refine ⟨a.block, a.off, by rw [← ha], hb, fun i hi => ?_⟩
      rw [hlen] at hi
      obtain ⟨⟨h1, h2, h3, h4⟩, -⟩ := hC i hi
      rw [ha, add_plain] at h1 h2 h3 h4
      simp only [List.getElem_map, List.getElem_range, Nat.add_assoc]
      exact ⟨h1, h2, h3, h4⟩
    · intro c hc
      obtain ⟨i, hi, rfl⟩ := List.mem_map.1 hc
      exact (hC i (List.mem_range.1 hi)).2
    · rw [hlen]
      simp at hbig
      omega
end
end Go.Proofs.YtokfddlknhijbaaGreatDoor
