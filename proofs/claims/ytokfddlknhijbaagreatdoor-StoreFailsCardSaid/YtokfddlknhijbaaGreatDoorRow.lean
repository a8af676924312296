/- From what a row lays ahead of the call to the walk's Env. -/
import Derived.Test.YtokfddlknhijbaaGreatDoorRows
import Derived.Test.YtokfddlknhijbaaGreatDoorDisk
import Derived.ChangeSame
import Derived.ChangeVars
import Derived.JoinedOf
import Derived.RowKit
import Derived.RowKitTokens
import Derived.LaidLaws
import Derived.LaidHandle
import Derived.Stop.Joined
namespace Go.Proofs.YtokfddlknhijbaaGreatDoor
open Go Go.ChangeShapes Go.WideShapes Go.RowKit

theorem Tz.own : ownKnob Tryz.prog.godebug = none := by kernel_rfl
theorem Tz.et : Tryz.prog.globalNamed "errors.errorType" = some 9 := by kernel_rfl
theorem Tz.rt : (Tryz.prog.cutTypes.find? (·.1 == "internal/reflectlite.rtype")).map (·.2) = some 153 := by kernel_rfl
theorem Tz.size : Tryz.prog.types.size = 217 := by kernel_rfl
theorem Tz.oneRow : ((List.range 217).filter fun t => Tryz.prog.rowNamed t [101, 114, 114, 111, 114]) = [25] := by kernel_rfl
theorem Tz.handle : typeHandle Tryz.prog 25 = .pointer (some ⟨11, 25, none⟩) := by kernel_rfl
theorem Tz.cells206 : Tryz.prog.cellsOf 206 = 1 := by kernel_rfl
theorem Tz.cells9 : Tryz.prog.cellsOf 9 = 1 := by kernel_rfl
theorem Tz.star : "*" ++ "errors.errorString" = "*errors.errorString" := by decide
theorem Tz.row188 (u : TypeId) (h : Tryz.prog.typeName? 3 u = some "*errors.errorString") : u = 188 :=
  typeName_ptr_named (nm := "errors.errorString") (by rw [Tz.star]; kernel_rfl) (by kernel_rfl) (by decide) u (by rw [Tz.star]; exact h)

def RowsOk (W : World) (ps : List MemPlace) : Prop := ∀ b off, MemPlace.cell b off ∈ ps →
    (∃ c t, W.heap[b]? = some (.cells c t (0, 0))) ∧ ∀ u v, W.cell? ⟨b, off, none⟩ = some (.iface u v) → Value.okWide Tryz.prog W .any 0 u v
set_option maxRecDepth 100000 in
/-- One sentinel. -/
theorem sent_one {W : World} {n : String} {g : Nat} {text : List UInt8} {r : List (String × DataW Unit)} {ps : List MemPlace} (hg : Tryz.prog.globalNamed n = some g) (ht : (Tryz.prog.globals[g]?).map (·.type) = some 25)
    (h : DataW.LaidVars Tryz.prog W ((n, .iface "*errors.errorString" (.ptr (.agg [.lit (.string text)]))) :: r) ps) (hrows : RowsOk W ps) :
    ∃ a q, W.cell? ⟨g, 0, none⟩ = some (.iface 188 (.pointer (some a))) ∧ DataW.LaidVars Tryz.prog W r q ∧ ps = MemPlace.cell g 0 :: MemPlace.cell a.block a.off :: q ∧ a.spot = none ∧ a.block < W.heap.size ∧ ∃ c t, W.heap[a.block]? = some (.cells c t (0, 0)) := by
  obtain ⟨g0, t0, cs0, f0, p0, q0, hg0, ht0, hv0, hd0, hr, e0⟩ := h
  obtain rfl := Option.some.inj (hg.symm.trans hg0)
  obtain rfl := Option.some.inj (ht.symm.trans ht0)
  obtain ⟨l0⟩ := cs0
  have ok0 : ∀ u v, l0 = [.iface u v] → Value.okWide Tryz.prog W .any 0 u v := fun u v e => by
    subst e
    refine (hrows g 0 ?_).2 u v (by simpa using World.var?_cell hg0 hv0 0)
    rw [e0]; simp [MemPlace.row]
  obtain ⟨a, s, rfl, hc, hs, hz, rfl⟩ := errorString_of_trod Tryz.underlying25 Tz.row188 Tryz.underlying188 Tryz.underlying206 rfl rfl Tryz.underlying9 Tz.cells206 Tz.cells9 hd0 ok0
  have hcell : W.cell? ⟨g, 0, none⟩ = some (.iface 188 (.pointer (some a))) := by simpa using World.var?_cell hg0 hv0 0
  have hps : ps = MemPlace.cell g 0 :: MemPlace.cell a.block a.off :: q0 := by rw [e0]; simp [MemPlace.row]
  obtain ⟨c, t, hb⟩ := (hrows a.block a.off (by rw [hps]; simp)).1
  refine ⟨a, q0, hcell, hr, hps, ?_, (Array.getElem?_eq_some_iff.1 hb).1, c, t, hb⟩
  unfold World.cell? at hc
  rw [hb] at hc
  simp only at hc
  split at hc
  · cases hc
  · rename_i hsp
    cases hq : a.spot with
    | none => rfl
    | some x => rw [hq] at hsp; simp at hsp
theorem RowsOk.tail {W : World} {x y : MemPlace} {q : List MemPlace} (h : RowsOk W (x :: y :: q)) : RowsOk W q := fun b off hm => h b off (by simp [hm])
def laidL : List (String × DataW Unit) := [("errors.errorType", Rows.laid_errors_errorType), ("layercake/api.ErrText", Rows.laid_layercake_api_ErrText), ("layercake/api.ErrBound", Rows.laid_layercake_api_ErrBound), ("layercake/api.ErrShape", Rows.laid_layercake_api_ErrShape), ("layercake/api.ErrSum", Rows.laid_layercake_api_ErrSum), ("layercake/api.ErrName", Rows.laid_layercake_api_ErrName), ("layercake/api.ErrNone", Rows.laid_layercake_api_ErrNone), ("layercake/api.ErrColors", Rows.laid_layercake_api_ErrColors), ("layercake/api.ErrFull", Rows.laid_layercake_api_ErrFull), ("layercake/api.ErrPower", Rows.laid_layercake_api_ErrPower)]
set_option maxHeartbeats 1000000 in
set_option maxRecDepth 100000 in
theorem env_of_laid {W : World} (h : laidMetH Tryz.prog laidL W) : ∃ E, Env W.heap.size E W := by
  have h' : laidMet Tryz.prog [("layercake/api.ErrText", Rows.laid_layercake_api_ErrText), ("layercake/api.ErrBound", Rows.laid_layercake_api_ErrBound), ("layercake/api.ErrShape", Rows.laid_layercake_api_ErrShape), ("layercake/api.ErrSum", Rows.laid_layercake_api_ErrSum), ("layercake/api.ErrName", Rows.laid_layercake_api_ErrName), ("layercake/api.ErrNone", Rows.laid_layercake_api_ErrNone), ("layercake/api.ErrColors", Rows.laid_layercake_api_ErrColors), ("layercake/api.ErrFull", Rows.laid_layercake_api_ErrFull), ("layercake/api.ErrPower", Rows.laid_layercake_api_ErrPower)] W ∧ handlesMet Tryz.prog [("errors.errorType", Rows.laid_errors_errorType)] W := h
  obtain ⟨⟨ps, hl, hnd, hrows⟩, hh⟩ := h'
  have hr0 : RowsOk W ps := hrows
  obtain ⟨name, u, ty, e1, e2, e3, e4, e5⟩ := hh _ (List.mem_singleton.2 rfl)
  have en : name = [101, 114, 114, 111, 114] := (Option.some.inj e1).symm
  subst en
  obtain rfl := Option.some.inj (Tz.rt.symm.trans e2)
  have hm : ty ∈ (List.range 217).filter fun t => Tryz.prog.rowNamed t [101, 114, 114, 111, 114] := List.mem_filter.2 ⟨List.mem_range.2 (by rw [← Tz.size]; exact e3), e4⟩
  rw [Tz.oneRow] at hm
  obtain rfl := List.mem_singleton.1 hm
  rw [Tz.handle] at e5
  have g9 : W.cell? ⟨9, 0, none⟩ = some (.iface 153 (.agg #[.pointer (some ⟨11, 25, none⟩)])) := by simpa using World.var?_cell Tz.et e5 0
  obtain ⟨a1, q1, c1, l1, rfl, s1, b1, r1⟩ := sent_one (g := 4) (by kernel_rfl) (by kernel_rfl) hl hr0
  have hr1 := hr0.tail
  obtain ⟨a2, q2, c2, l2, rfl, s2, b2, r2⟩ := sent_one (g := 0) (by kernel_rfl) (by kernel_rfl) l1 hr1
  have hr2 := hr1.tail
  obtain ⟨a3, q3, c3, l3, rfl, s3, b3, r3⟩ := sent_one (g := 6) (by kernel_rfl) (by kernel_rfl) l2 hr2
  have hr3 := hr2.tail
  obtain ⟨a4, q4, c4, l4, rfl, s4, b4, r4⟩ := sent_one (g := 7) (by kernel_rfl) (by kernel_rfl) l3 hr3
  have hr4 := hr3.tail
  obtain ⟨a5, q5, c5, l5, rfl, s5, b5, r5⟩ := sent_one (g := 3) (by kernel_rfl) (by kernel_rfl) l4 hr4
  have hr5 := hr4.tail
  obtain ⟨a6, q6, c6, l6, rfl, s6, b6, r6⟩ := sent_one (g := 5) (by kernel_rfl) (by kernel_rfl) l5 hr5
  have hr6 := hr5.tail
  obtain ⟨a7, q7, c7, l7, rfl, s7, b7, r7⟩ := sent_one (g := 8) (by kernel_rfl) (by kernel_rfl) l6 hr6
  have hr7 := hr6.tail
  obtain ⟨a8, q8, c8, l8, rfl, s8, b8, r8⟩ := sent_one (g := 1) (by kernel_rfl) (by kernel_rfl) l7 hr7
  have hr8 := hr7.tail
  obtain ⟨a9, q9, c9, l9, rfl, s9, b9, r9⟩ := sent_one (g := 2) (by kernel_rfl) (by kernel_rfl) l8 hr8
  clear hrows hh hl l1 l2 l3 l4 l5 l6 l7 l8 l9 hr0 hr1 hr2 hr3 hr4 hr5 hr6 hr7 hr8 h e1 e2 e3 e4 e5
  let E : Nat → Addr := fun c => match c with | 1 => a1 | 2 => a2 | 3 => a3 | 4 => a4 | 5 => a5 | 6 => a6 | 7 => a7 | 8 => a8 | 9 => a9 | _ => a1
  have h10 : 10 ≤ W.heap.size := by
    unfold World.cell? at g9
    cases hx : W.heap[9]? with
    | none => rw [hx] at g9; cases g9
    | some o => have := (Array.getElem?_eq_some_iff.1 hx).1; omega
  refine ⟨E, Nat.le_refl _, h10, ?_, ?_, c2, c8, c9, c5, c1, c6, c3, c4, c7, g9, ?_, ?_⟩
  · intro c
    show (E c).block < _
    simp only [E]; split <;> assumption
  · intro c
    simp only [E]; split <;> assumption
  · intro c h1 h2
    rcases (by omega : c = 1 ∨ c = 2 ∨ c = 3 ∨ c = 4 ∨ c = 5 ∨ c = 6 ∨ c = 7 ∨ c = 8 ∨ c = 9) with rfl | rfl | rfl | rfl | rfl | rfl | rfl | rfl | rfl <;> assumption
  · have hsub := hnd.sublist (l₁ := [MemPlace.cell a1.block a1.off, .cell a2.block a2.off, .cell a3.block a3.off, .cell a4.block a4.off, .cell a5.block a5.off, .cell a6.block a6.off, .cell a7.block a7.off, .cell a8.block a8.off, .cell a9.block a9.off])
      (.cons _ (.cons_cons _ (.cons _ (.cons_cons _ (.cons _ (.cons_cons _ (.cons _ (.cons_cons _ (.cons _ (.cons_cons _ (.cons _ (.cons_cons _ (.cons _ (.cons_cons _ (.cons _ (.cons_cons _ (.cons _ (.cons_cons _ (List.nil_sublist _)))))))))))))))))))
    have hpw := List.pairwise_iff_getElem.1 hsub
    have hE : ∀ (c : Nat) (h1 : 1 ≤ c) (h9 : c ≤ 9), ([MemPlace.cell a1.block a1.off, .cell a2.block a2.off, .cell a3.block a3.off, .cell a4.block a4.off, .cell a5.block a5.off, .cell a6.block a6.off, .cell a7.block a7.off, .cell a8.block a8.off, .cell a9.block a9.off])[c - 1]'(by simp; omega) = .cell (E c).block (E c).off := by
      intro c h1 h9
      rcases (by omega : c = 1 ∨ c = 2 ∨ c = 3 ∨ c = 4 ∨ c = 5 ∨ c = 6 ∨ c = 7 ∨ c = 8 ∨ c = 9) with rfl | rfl | rfl | rfl | rfl | rfl | rfl | rfl | rfl <;> rfl
    intro c d h1 h2 h3 h4 e
    rcases Nat.lt_trichotomy c d with hlt | heq | hgt
    · exfalso
      have := hpw (c - 1) (d - 1) (by simp; omega) (by simp; omega) (by omega)
      rw [hE c h1 h2, hE d h3 h4, e] at this
      exact this rfl
    · exact heq
    · exfalso
      have := hpw (d - 1) (c - 1) (by simp; omega) (by simp; omega) (by omega)
      rw [hE c h1 h2, hE d h3 h4, e] at this
      exact this rfl
end Go.Proofs.YtokfddlknhijbaaGreatDoor
