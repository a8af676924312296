/- The law's input: a slice of acts; few, act. -/
import Derived.Test.YtokfddlknhijbaaGreatDoorDoing
import Derived.WalkSpells
import Derived.Maps.AppendAt
import Derived.WideShapes
namespace Go.Proofs.YtokfddlknhijbaaGreatDoor
open Go Go.RowKit Go.Maps
structure Actn where
  kind : Str
  n : Int
  s : Str
  A : Option Addr
  len : Nat
  cap : Nat
  keep : List Bool
abbrev actV (c : Actn) : Value := .agg #[encStr c.kind, .int .i64 c.n, encStr c.s, .slice c.A c.len c.cap]
/-- Bools that came in: they lie below block B. -/
def BoolsAt (B : Nat) (w : World) (A : Option Addr) (l : List Bool) : Prop :=
  0 < l.length → ∃ b off, A = some ⟨b, off, none⟩ ∧ b < B ∧ ∀ i (h : i < l.length), w.cell? ⟨b, off + i, none⟩ = some (.bool l[i])
theorem BoolsAt.below {B : Nat} {w w' : World} {A : Option Addr} {l : List Bool} (h : BoolsAt B w A l) (hb : Below B w w') : BoolsAt B w' A l := by
  intro hl
  obtain ⟨b, off, e, hlt, hc⟩ := h hl
  exact ⟨b, off, e, hlt, fun i hi => (hb.cell (p := ⟨b, _, none⟩) hlt).trans (hc i hi)⟩
/-- One act that came in. -/
structure ActAt (B : Nat) (w : World) (c : Actn) : Prop where
  len : c.keep.length = c.len
  bools : BoolsAt B w c.A c.keep
  n : -9223372036854775808 ≤ c.n ∧ c.n ≤ 9223372036854775807
  s : c.s.length ≤ 140737488355328
  max : c.len ≤ 140737488355328
theorem ActAt.below {B : Nat} {w w' : World} {c : Actn} (h : ActAt B w c) (hb : Below B w w') : ActAt B w' c := ⟨h.len, h.bools.below hb, h.n, h.s, h.max⟩
def ActsAt (B : Nat) (w : World) (A : Option Addr) (l : List Actn) : Prop :=
  (0 < l.length → ∃ b off, A = some ⟨b, off, none⟩ ∧ b < B ∧ ∀ i (h : i < l.length),
    w.cell? ⟨b, off + i * 4, none⟩ = some (encStr (l[i]).kind) ∧ w.cell? ⟨b, off + i * 4 + 1, none⟩ = some (.int .i64 (l[i]).n) ∧ w.cell? ⟨b, off + i * 4 + 2, none⟩ = some (encStr (l[i]).s) ∧ w.cell? ⟨b, off + i * 4 + 3, none⟩ = some (.slice (l[i]).A (l[i]).len (l[i]).cap)) ∧
  ∀ c ∈ l, ActAt B w c
theorem ActsAt.below {B : Nat} {w w' : World} {A : Option Addr} {l : List Actn} (h : ActsAt B w A l) (hb : Below B w w') : ActsAt B w' A l := by
  refine ⟨fun hl => ?_, fun c hc => (h.2 c hc).below hb⟩
  obtain ⟨b, off, e, hlt, hc⟩ := h.1 hl
  refine ⟨b, off, e, hlt, fun i hi => ?_⟩
  obtain ⟨h1, h2, h3, h4⟩ := hc i hi
  exact ⟨(hb.cell (p := ⟨b, _, none⟩) hlt).trans h1, (hb.cell (p := ⟨b, _, none⟩) hlt).trans h2, (hb.cell (p := ⟨b, _, none⟩) hlt).trans h3, (hb.cell (p := ⟨b, _, none⟩) hlt).trans h4⟩
structure Few (l : List Actn) : Prop where
  len : l.length ≤ 60
  s : ∀ c ∈ l, c.s.length ≤ 200
  keep : ∀ c ∈ l, c.len ≤ 200
def FewPost (l : List Actn) (w : World) (e : Ending) (w' : World) : Prop := ∃ b : Bool, e = .returned (.bool b) ∧ (b = true → Few l) ∧ w = w'
set_option maxHeartbeats 1000000 in
set_option maxRecDepth 100000 in
theorem few_any (B : Nat) (A : Option Addr) (c : Nat) (l : List Actn) (w : World) (h : ActsAt B w A l) (hl : l.length ≤ 140737488355328) :
    Calls Tryz.prog 20 #[.slice A l.length c] w (FewPost l w) := by
  go_enter Tryz.func20, Tryz.ntmps20
  go_wp2
  go_loop [3] (fun v3 => ∃ (k : Nat), k ≤ l.length ∧ v3 = .int .i64 k ∧ ∀ i (h : i < l.length), i < k → (l[i]).s.length ≤ 200 ∧ (l[i]).len ≤ 200) (fun v3 => l.length - (intOf v3).toNat)
  case atStart => exact ⟨0, Nat.zero_le _, rfl, fun i _ h => absurd h (by omega)⟩
  case round =>
    obtain ⟨k, hk, rfl, hn⟩ := hrel
    by_cases hlt : k < l.length
    · obtain ⟨b, off, rfl, -, hcell⟩ := h.1 (by omega)
      obtain ⟨-, -, z2, z3⟩ := hcell k hlt
      have hn2 : (l[k]).s.length ≤ 200 → (l[k]).len ≤ 200 → ∀ i (h : i < l.length), i < k + 1 → (l[i]).s.length ≤ 200 ∧ (l[i]).len ≤ 200 := fun h0 h1 i hi hik => by
        rcases Nat.lt_or_ge i k with h2 | h2
        · exact hn i hi h2
        · have : i = k := by omega
          subst this; exact ⟨h0, h1⟩
      have hb1 := (h.2 _ (List.getElem_mem hlt)).s
      have hb2 := (h.2 _ (List.getElem_mem hlt)).max
      clear hcell h hn
      have HN := Lib.hid hn2
      clear hn2
      generalize l[k] = x at *
      by_cases hxl : x.s.length ≤ 200
      · have hxi : ¬ (200 : Int) < (x.s.length : Int) := by omega
        have hxd : decide ((200 : Int) < (x.s.length : Int)) = false := by simp; omega
        by_cases hyl : x.len ≤ 200
        · have hyi : ¬ (200 : Int) < (x.len : Int) := by omega
          go_wp2
          go_round
          case rel => exact ⟨k + 1, by omega, by go_num, HN.out hxl hyl⟩
          case measure => simp [intOf]; omega
        · have hyi : (200 : Int) < (x.len : Int) := by omega
          go_wp2
          go_ret
          exact ⟨false, rfl, (fun h => by cases h), rfl⟩
      · have hxi : (200 : Int) < (x.s.length : Int) := by omega
        have hxd : decide ((200 : Int) < (x.s.length : Int)) = true := by simp; omega
        go_wp2
        go_ret
        exact ⟨false, rfl, (fun h => by cases h), rfl⟩
    · obtain rfl : k = l.length := by omega
      have hfin : ∀ b : Bool, (b = true → (l.length : Int) ≤ 60) → FewPost l w (.returned (.bool b)) w := by
        intro b hb
        refine ⟨b, rfl, fun e => ?_, rfl⟩
        have e1 := hb e
        exact ⟨by omega, fun c hcm => by obtain ⟨i, hi, rfl⟩ := List.getElem_of_mem hcm; exact (hn i hi hi).1, fun c hcm => by obtain ⟨i, hi, rfl⟩ := List.getElem_of_mem hcm; exact (hn i hi hi).2⟩
      clear h hn
      by_cases h60 : (l.length : Int) ≤ 60
      · go_wp2
        go_ret
        exact hfin _ (fun _ => h60)
      · go_wp2
        go_ret
        exact hfin _ (fun e => by simp [h60] at e)

theorem wpList_append_run {P : Program} {w : World} {ops : Array Oper} {rest : List Oper} {o : Oper} {a : Act} {Q : Exit → Act → World → Prop} (hgd : o.guard = none) (s x : Operand) (t : TypeId)
    (ho : o.op = .call { callee := .builtin .append, args := #[s, x], argTypes := #[t, t] }) (v vx : Value) (hs : a.eval s = v) (hx : a.eval x = vx) {v' : Value} {w' : World}
    (hr : (Builtin.append_ #[t, t] o.type #[v, vx]).run P w = .ok v' w') (h : wpList P ops Q rest (a.put o.dst v') w') : wpList P ops Q (o :: rest) a w := by
  refine wpList_plain hgd fun K hK => ?_
  unfold Oper.wp execOp
  simp only [ho, resolve, invoke, builtin, Sem.run_bind, Sem.run_pure, Result.andThen_ok, List.map_toArray, List.map_cons, List.map_nil, hs, hx, hr]
  exact hK _ _ h
/-- A copy of bools that came in. -/
theorem bools_copy {B : Nat} {W : World} {A : Option Addr} {c : Nat} {l : List Bool} (h : BoolsAt B W A l) (hl : l.length ≤ 100000) :
    ∃ v' w', (Builtin.append_ #[49, 49] 49 #[.slice none 0 0, .slice A l.length c]).run Tryz.prog W = .ok v' w' ∧ w'.ownsRow W.heap.size 4 1 v' l.length (l.map Value.bool) ∧ Below W.heap.size W w' := by
  obtain ⟨i0, hi, hz0, hz1, hz2⟩ := info_parts (show (Tryz.prog.info? 4).map (fun i => (i.zero, i.size, i.bytes)) = some (some (.bool false), 1, 1) by kernel_rfl)
  have key : ∀ ad : Addr, (∀ j u, (l.map Value.bool)[j]? = some u → W.cell? (ad.add j) = some u) →
      ∃ v' w', (Builtin.append_ #[49, 49] 49 #[.slice none 0 0, .slice (some ad) l.length c]).run Tryz.prog W = .ok v' w' ∧ w'.ownsRow W.heap.size 4 1 v' l.length (l.map Value.bool) ∧ Below W.heap.size W w' := by
    intro ad hc
    obtain ⟨v', w', h1, h2, h3, -, -⟩ := run_append_own_at (P := Tryz.prog) W W.heap.size 49 49 4 i0 (.bool false) 1 1 Tryz.underlying49 hi hz0 hz1 hz2 rfl (by decide) (.slice none 0 0) 0 [] (World.ownsRow_nil _ _ _ _) ad l.length c (l.map Value.bool) (by simp) hc
      (by intro u hu; obtain ⟨x, _, rfl⟩ := List.mem_map.1 hu; rfl) (by unfold maxLen; omega) (by omega) (Nat.le_refl _)
    exact ⟨v', w', h1, by simpa using h2, (Below.refl _ _).grown h3 (Nat.le_refl _) (fun k hk => by simp [Value.ownBlock] at hk)⟩
  rcases Nat.eq_zero_or_pos l.length with h0 | h0
  · have hnil : l = [] := List.eq_nil_of_length_eq_zero h0
    subst hnil
    cases A with
    | some ad => exact key ad (by simp)
    | none =>
      exact ⟨.slice none 0 0, W, by simp [Builtin.append_, run_underlying Tryz.underlying49, sizeOf, typeInfo, hi, Builtin.lenOf, Builtin.firstCells], World.ownsRow_nil _ _ _ _, Below.refl _ _⟩
  · obtain ⟨b, off, rfl, hb, hc⟩ := h h0
    refine key _ (fun j u hu => ?_)
    obtain ⟨hj, hu2⟩ := List.getElem?_eq_some_iff.1 hu
    have hj2 : j < l.length := by simpa using hj
    have := hc j hj2
    rw [Go.WideShapes.add_plain, this, ← hu2]
    simp
def kWrite : Str := [119, 114, 105, 116, 101]
def kFlush : Str := [102, 108, 117, 115, 104]
def kFail : Str := [102, 97, 105, 108]
def kCrash : Str := [99, 114, 97, 115, 104]
def actD (D : Dsk) (c : Actn) : Dsk :=
  if c.kind = kWrite then (D.write c.n c.s).2 else if c.kind = kFlush then D.flush.2 else if c.kind = kCrash then D.crash c.keep else D
def ActPost (B : Nat) (w : World) (a : Nat) (S : Nat → Prop) (D : Dsk) (e : Ending) (w' : World) : Prop := ∃ u, e = .returned u ∧ Moves B w a S D w'
theorem Moves.after {B a : Nat} {w w1 w' : World} {S : Nat → Prop} {D : Dsk} (h : Moves B w1 a S D w') (hs : Step S w S w1) : Moves B w a S D w' := by
  obtain ⟨S', h1, h2⟩ := h
  exact ⟨S', h1, hs.trans h2⟩
set_option maxHeartbeats 2000000 in
set_option maxRecDepth 100000 in
theorem act_any (B : Nat) (E : Nat → Addr) (B0 : Nat) (a : Nat) (D : Dsk) (S : Nat → Prop) (c : Actn) (w : World) (h : DiskAt B w a D S) (hE : Env B E w) (hc : ActAt B0 w c) (hB0 : B0 ≤ w.heap.size) (hnf : c.kind ≠ kFail) (hw : D.waits.length ≤ 1000000) (hlen : c.len ≤ 100000) :
    Calls Tryz.prog 21 #[.pointer (some ⟨a, 0, none⟩), actV c] w (ActPost B w a S (actD D c)) := by
  obtain ⟨ck, n, cs, A, len, cap, keep⟩ := c
  obtain ⟨h1, h2, h3, h4, -⟩ := hc
  simp only at h1 h2 h3 h4 hnf hlen
  subst h1
  have hb1 := (Below.refl w.heap.size w).alloc (Nat.le_refl _) (.cells #[encStr ck, .int .i64 n, encStr cs, .slice A keep.length cap] 51)
  have hd1 := h.step hb1
  have hE1 := hE.below (hb1.mono hE.size)
  have st1 : Step S w S (w.alloc (.cells #[encStr ck, .int .i64 n, encStr cs, .slice A keep.length cap] 51)) := Step.of_below hb1 _
  have hBn := Blk.new w [encStr ck, .int .i64 n, encStr cs, .slice A keep.length cap] 51
  have y0 : (w.alloc (.cells #[encStr ck, .int .i64 n, encStr cs, .slice A keep.length cap] 51)).cell? ⟨w.heap.size, 0, none⟩ = some (encStr ck) := hBn.cell 0
  have y1 : (w.alloc (.cells #[encStr ck, .int .i64 n, encStr cs, .slice A keep.length cap] 51)).cell? ⟨w.heap.size, 1, none⟩ = some (.int .i64 n) := hBn.cell 1
  have y2 : (w.alloc (.cells #[encStr ck, .int .i64 n, encStr cs, .slice A keep.length cap] 51)).cell? ⟨w.heap.size, 2, none⟩ = some (encStr cs) := hBn.cell 2
  have y3 : (w.alloc (.cells #[encStr ck, .int .i64 n, encStr cs, .slice A keep.length cap] 51)).cell? ⟨w.heap.size, 3, none⟩ = some (.slice A keep.length cap) := hBn.cell 3
  have hwr := write_any B E a D S n cs _ hd1 hE1 h3.1 (by omega) hw
  have hfl := flush_any B E a D S _ hd1 hE1
  have hk1 := h2.below (hb1.mono hB0)
  have hsz : ∀ j, S j → j < (w.alloc (.cells #[encStr ck, .int .i64 n, encStr cs, .slice A keep.length cap] 51)).heap.size := by obtain ⟨_, _, _, hd⟩ := hd1; exact hd.hi
  show Calls Tryz.prog 21 #[.pointer (some ⟨a, 0, none⟩), .agg #[encStr ck, .int .i64 n, encStr cs, .slice A keep.length cap]] w _
  clear hBn h hE h2 hb1
  have hnf2 : (ck == [102, 97, 105, 108]) = false := beq_lit hnf
  by_cases e1 : ck = kWrite
  · subst e1
    have hD : actD D ⟨kWrite, n, cs, A, keep.length, cap, keep⟩ = (D.write n cs).2 := by unfold actD; rw [if_pos rfl]
    rw [hD]
    have b1 : (kWrite == [119, 114, 105, 116, 101]) = true := rfl
    clear hD hnf hnf2 hfl hk1
    generalize D.write n cs = r at *
    go_enter Tryz.func21, Tryz.ntmps21
    go_wp2_with fail
    refine hwr.mono ?_
    rintro e w2 ⟨rfl, hm⟩
    have hm2 := hm.after st1
    clear hwr hm
    go_wp2_with fail
    go_ret
    exact ⟨_, rfl, hm2⟩
  · by_cases e2 : ck = kFlush
    · subst e2
      have hD : actD D ⟨kFlush, n, cs, A, keep.length, cap, keep⟩ = D.flush.2 := by unfold actD; rw [if_neg e1, if_pos rfl]
      rw [hD]
      have b1 : (kFlush == [119, 114, 105, 116, 101]) = false := rfl
      have b2 : (kFlush == [102, 108, 117, 115, 104]) = true := rfl
      clear hD hnf hnf2 hwr hk1 e1
      generalize D.flush = r at *
      go_enter Tryz.func21, Tryz.ntmps21
      go_wp2_with fail
      refine hfl.mono ?_
      rintro e w2 ⟨rfl, hm⟩
      have hm2 := hm.after st1
      clear hfl hm
      go_wp2_with fail
      go_ret
      exact ⟨_, rfl, hm2⟩
    · have b1 : (ck == [119, 114, 105, 116, 101]) = false := beq_lit e1
      have b2 : (ck == [102, 108, 117, 115, 104]) = false := beq_lit e2
      by_cases e3 : ck = kCrash
      · subst e3
        have hD : actD D ⟨kCrash, n, cs, A, keep.length, cap, keep⟩ = D.crash keep := by unfold actD; rw [if_neg e1, if_neg e2, if_pos rfl]
        rw [hD]
        have b3 : (kCrash == [99, 114, 97, 115, 104]) = true := rfl
        obtain ⟨v', w', hap, hrow, hb2⟩ := bools_copy (c := cap) hk1 (by omega)
        have hcr := crash_any B a D S keep v' w' (hd1.step hb2) (own_base hrow) (Nat.le_trans hE1.size hb2.size) (fun k hk hS => by have := own_ge hrow hk; have := hsz k hS; omega) hw
        have hfin : ∀ wz, Moves B w' a S (D.crash keep) wz → Moves B w a S (D.crash keep) wz := fun wz hm => (hm.after (Step.of_below hb2 S)).after st1
        clear hD hnf hwr hfl hk1 e1 e2 hrow hb2 hd1 hE1 hsz
        have FIN := Lib.hid hfin
        clear hfin
        go_enter Tryz.func21, Tryz.ntmps21
        go_wp2_with (at_builtin; refine wpList_append_run rfl _ _ 49 rfl _ _ rfl rfl hap ?_)
        clear hap
        go_wp2_with fail
        refine hcr.mono ?_
        rintro e w2 ⟨rfl, hm⟩
        have hm2 := FIN.out _ hm
        clear hcr hm FIN
        go_wp2_with fail
        go_ret
        exact ⟨_, rfl, hm2⟩
      · have hD : actD D ⟨ck, n, cs, A, keep.length, cap, keep⟩ = D := by unfold actD; rw [if_neg e1, if_neg e2, if_neg e3]
        rw [hD]
        have b3 : (ck == [99, 114, 97, 115, 104]) = false := beq_lit e3
        have hm2 := (Moves.refl hd1).after st1
        clear hD hnf hwr hfl hk1 e1 e2 e3 hd1 hE1
        go_enter Tryz.func21, Tryz.ntmps21
        go_wp2_with fail
        go_ret
        exact ⟨_, rfl, hm2⟩
end Go.Proofs.YtokfddlknhijbaaGreatDoor
