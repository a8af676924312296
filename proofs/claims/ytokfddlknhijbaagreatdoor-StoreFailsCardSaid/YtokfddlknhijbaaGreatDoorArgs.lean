/- A slice of changes among the arguments: what it reads as, told of the walk's words. -/
import Derived.Test.YtokfddlknhijbaaGreatDoorChgs
import Derived.Test.YtokfddlknhijbaaGreatDoorRow
import Derived.Deep.Strs
import Derived.SizedLaws
import Derived.Carry
namespace Go.Proofs.YtokfddlknhijbaaGreatDoor
open Go Go.RowKit Go.Maps Go.ChangeShapes Go.WideShapes Go.Deep
theorem weightsAll_mem {H : Type} {P : Program} {e : TypeId} : ∀ {l : List (DataW H)} {d : DataW H}, d ∈ l → ∀ n ∈ d.weights P e, n ∈ DataW.weightsAll P e l
  | d' :: r, d, hd, n, hn => by
    simp only [DataW.weightsAll, List.mem_append]
    rcases List.mem_cons.1 hd with rfl | h
    · exact .inl hn
    · exact .inr (weightsAll_mem h n hn)
theorem Tz.laidOut : laidOutB Tryz.prog = true := by kernel_rfl
theorem Tz.cells42 : Tryz.prog.cellsOf 42 = 3 := by kernel_rfl
theorem Tz.bytes42 : Tryz.prog.bytesOf 42 = 48 := by kernel_rfl
instance : Inhabited Chg := ⟨⟨[], [], []⟩⟩
theorem plain_of_cell {w : World} {a : Addr} {v : Value} (h : w.cell? a = some v) : a = ⟨a.block, a.off, none⟩ ∧ a.block < w.heap.size := by
  obtain ⟨b, off, s⟩ := a
  unfold World.cell? at h
  cases hx : w.heap[b]? with
  | none => rw [hx] at h; cases h
  | some o =>
    rw [hx] at h
    have hlt := (Array.getElem?_eq_some_iff.1 hx).1
    cases o with
    | cells c t f =>
      cases s with
      | none => exact ⟨rfl, hlt⟩
      | some x => simp at h
    | _ => simp at h
section
variable {H : Type} {enc : TypeId × Value → H} {W : World} {spare : Nat → Bool} {held : Bool}
/-- One change. -/
theorem chg_elem {n : Nat} {cs : List Value} {y : DataW H × List MemPlace} (h : DataW.trod enc Tryz.prog W 0 spare held n 42 cs = some y) :
    ∃ c : Chg, cs = [encStr c.kind, encStr c.name, encStr c.text] ∧ y.1 = .agg [.lit (.string c.kind), .lit (.string c.name), .lit (.string c.text)] := by
  obtain ⟨y0, y1, y2, m, rfl, hlen, h0, h1, h2⟩ := trod_struct3 Tryz.underlying42 h
  rw [Tz.cells42] at hlen
  rw [Tz.cells9] at h0 h1 h2
  match cs, hlen with
  | [v0, v1, v2], _ =>
    obtain ⟨s0, e0, f0, -⟩ := DataW.trod_string Tryz.underlying9 h0
    obtain ⟨s1, e1, f1, -⟩ := DataW.trod_string Tryz.underlying9 h1
    obtain ⟨s2, e2, f2, -⟩ := DataW.trod_string Tryz.underlying9 h2
    simp at e0 e1 e2
    subst e0 e1 e2 f0 f1 f2
    exact ⟨⟨s0.data.toList, s1.data.toList, s2.data.toList⟩, rfl, rfl⟩
set_option maxRecDepth 100000 in
/-- A slice of changes that came in. -/
theorem open_chgs {v : Value} {d : DataW H} {p : List MemPlace} {base : Nat} (hv : Value.okWide Tryz.prog W .any base 36 v) (h : DataW.Trod enc Tryz.prog W 0 spare held 36 v d p)
    (hw : ∀ n ∈ d.weights Tryz.prog 36, n ≤ reachBytes) :
    ∃ (A : Option Addr) (c : Nat) (l : List Chg), v = .slice A l.length c ∧ ChgsAt W.heap.size W A l ∧ l.length ≤ 140737488355328 ∧ (∀ c ∈ l, c.text.length ≤ 140737488355328) ∧ (∀ c ∈ l, c.name.length ≤ 140737488355328) := by
  obtain ⟨a0, len, cap, rfl⟩ := okWide_slice Tryz.underlying36 hv
  obtain ⟨fuel, hf⟩ := h
  rcases open_slice Tryz.underlying36 hf with ⟨hcs, -⟩ | ⟨a, len', cap', m, n, D, Pl, hcs, -, hlc, hcm, hm, hx, hel⟩
  · simp [Value.cells] at hcs
    obtain ⟨rfl, rfl, rfl⟩ := hcs
    exact ⟨none, 0, [], rfl, (fun h => absurd h (Nat.lt_irrefl _)), Nat.zero_le _, (fun c h => by cases h), (fun c h => by cases h)⟩
  · simp [Value.cells] at hcs
    obtain ⟨rfl, rfl, rfl⟩ := hcs
    have hlm : len ≤ m := by rw [hm]; split <;> omega
    rw [Tz.cells42] at hel
    have each : ∀ i, i < len → ∃ c : Chg, (W.cell? (a.add (i * 3)) = some (encStr c.kind) ∧ W.cell? (a.add (i * 3 + 1)) = some (encStr c.name) ∧ W.cell? (a.add (i * 3 + 2)) = some (encStr c.text)) ∧ D i = .agg [.lit (.string c.kind), .lit (.string c.name), .lit (.string c.text)] := by
      intro i hi
      obtain ⟨cs', hc, ht⟩ := hel i (by omega)
      obtain ⟨c, rfl, hD⟩ := chg_elem ht
      obtain ⟨-, -, hat⟩ := World.cells?_some hc
      have a0 := hat 0 (by omega)
      have a1 := hat 1 (by omega)
      have a2 := hat 2 (by omega)
      rw [add_add] at a0 a1 a2
      exact ⟨c, ⟨a0, a1, a2⟩, hD⟩
    obtain ⟨C, hC⟩ := choose_lt each
    simp only [Prod.mk.injEq] at hx
    have hd : d = .slice ((List.range len).map D) ((List.range (m - len)).map fun j => D (len + j)) := hx.1
    have hlen : ((List.range len).map C).length = len := by simp
    have hmem : ∀ c ∈ (List.range len).map C, ∃ i, i < len ∧ C i = c := by
      intro c hc
      obtain ⟨i, hi, rfl⟩ := List.mem_map.1 hc
      exact ⟨i, List.mem_range.1 hi, rfl⟩
    have hwt : ∀ i, i < len → ∀ k ∈ (D i).weights Tryz.prog 42, k ≤ reachBytes := by
      intro i hi k hk
      refine hw k ?_
      rw [hd]
      simp only [DataW.weights, Tryz.underlying36, List.mem_cons, List.mem_append]
      exact .inr (.inl (weightsAll_mem (List.mem_map.2 ⟨i, List.mem_range.2 hi, rfl⟩) k hk))
    have hbig : (((List.range len).map D).length + ((List.range (m - len)).map fun j => D (len + j)).length) * 48 ≤ reachBytes := by
      refine hw _ ?_
      rw [hd]
      simp only [DataW.weights, Tryz.underlying36, Tz.bytes42, List.mem_cons, true_or]
    have hreach : reachBytes = 140737488351232 := rfl
    refine ⟨some a, cap, (List.range len).map C, by rw [hlen], ?_, ?_, ?_, ?_⟩
    · intro hpos
      rw [hlen] at hpos
      have h0 := (hC 0 hpos).1.1
      rw [Nat.zero_mul, show a.add 0 = a by simp [Addr.add]] at h0
      obtain ⟨ha, hb⟩ := plain_of_cell h0
      refine ⟨a.block, a.off, by rw [← ha], hb, fun i hi => ?_⟩
      rw [hlen] at hi
      obtain ⟨⟨h1, h2, h3⟩, -⟩ := hC i hi
      rw [ha, add_plain] at h1 h2 h3
      simp only [List.getElem_map, List.getElem_range, Nat.add_assoc]
      exact ⟨h1, h2, h3⟩
    · rw [hlen]
      simp at hbig
      omega
    · intro c hc
      obtain ⟨i, hi, rfl⟩ := hmem c hc
      have := hwt i hi (C i).text.length (by rw [(hC i hi).2]; simp [DataW.weights, DataW.weightsEach, Tryz.underlying42])
      omega
    · intro c hc
      obtain ⟨i, hi, rfl⟩ := hmem c hc
      have := hwt i hi (C i).name.length (by rw [(hC i hi).2]; simp [DataW.weights, DataW.weightsEach, Tryz.underlying42])
      omega
end
end Go.Proofs.YtokfddlknhijbaaGreatDoor
