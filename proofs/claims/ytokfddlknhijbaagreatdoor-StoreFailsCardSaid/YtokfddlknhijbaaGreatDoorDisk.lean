/- The disk: what its functions leave, told of the plain disk. -/
import Derived.Test.YtokfddlknhijbaaGreatDoorPlain
import Derived.Test.YtokfddlknhijbaaGreatDoorBase
import Derived.Test.YtokfddlknhijbaaGreatDoorProg
import Derived.WalkKit
import Derived.Handy
import Derived.Lib.Hide
import Derived.Maps.AppendAt
import Derived.Test.YtokfddlknhijbaaGreatDoorShelf
namespace Go.Proofs.YtokfddlknhijbaaGreatDoor
open Go Go.RowKit

/-- What is known of the world ahead of the calls: the sentinels, where they lie; what lies below B is not the program's own. -/
structure Env (B : Nat) (E : Nat → Addr) (w : World) : Prop where
  size : B ≤ w.heap.size
  big : 10 ≤ B
  low : ∀ c, (E c).block < B
  plain : ∀ c, (E c).spot = none
  g0 : w.cell? ⟨0, 0, none⟩ = some (errv E 2)
  g1 : w.cell? ⟨1, 0, none⟩ = some (errv E 8)
  g2 : w.cell? ⟨2, 0, none⟩ = some (errv E 9)
  g3 : w.cell? ⟨3, 0, none⟩ = some (errv E 5)
  g4 : w.cell? ⟨4, 0, none⟩ = some (errv E 1)
  g5 : w.cell? ⟨5, 0, none⟩ = some (errv E 6)
  g6 : w.cell? ⟨6, 0, none⟩ = some (errv E 3)
  g7 : w.cell? ⟨7, 0, none⟩ = some (errv E 4)
  g8 : w.cell? ⟨8, 0, none⟩ = some (errv E 7)
  g9 : w.cell? ⟨9, 0, none⟩ = some (.iface 153 (.agg #[.pointer (some ⟨11, 25, none⟩)]))
  row : ∀ c, 1 ≤ c → c ≤ 9 → ∃ cs T, w.heap[(E c).block]? = some (.cells cs T (0, 0))
  inj : ∀ c d, 1 ≤ c → c ≤ 9 → 1 ≤ d → d ≤ 9 → E c = E d → c = d

theorem Env.below {B : Nat} {E : Nat → Addr} {w w' : World} (h : Env B E w) (hb : Below B w w') : Env B E w' := by
  have hc : ∀ k, k < 10 → w'.cell? ⟨k, 0, none⟩ = w.cell? ⟨k, 0, none⟩ := fun k hk => hb.cell (p := ⟨k, 0, none⟩) (Nat.lt_of_lt_of_le hk h.big)
  refine ⟨Nat.le_trans h.size hb.size, h.big, h.low, h.plain, ?_, ?_, ?_, ?_, ?_, ?_, ?_, ?_, ?_, ?_, fun c h1 h2 => by rw [hb.block _ (h.low c)]; exact h.row c h1 h2, h.inj⟩
  · rw [hc 0 (by omega)]; exact h.g0
  · rw [hc 1 (by omega)]; exact h.g1
  · rw [hc 2 (by omega)]; exact h.g2
  · rw [hc 3 (by omega)]; exact h.g3
  · rw [hc 4 (by omega)]; exact h.g4
  · rw [hc 5 (by omega)]; exact h.g5
  · rw [hc 6 (by omega)]; exact h.g6
  · rw [hc 7 (by omega)]; exact h.g7
  · rw [hc 8 (by omega)]; exact h.g8
  · rw [hc 9 (by omega)]; exact h.g9

def wcells (l : List (Nat × Str)) : List Value := l.flatMap fun x => [.int .i64 x.1, encStr x.2]
/-- The disk at block a: D; all of it lies in S. -/
structure DiskIn (B : Nat) (w : World) (a : Nat) (D : Dsk) (S : Nat → Prop) (vk vn vw : Value) : Prop where
  blk : Blk w a [.int .i64 D.left, vk, vn, vw] 67
  kept : w.ownsRow 0 9 1 vk D.kept.length (D.kept.map encStr)
  now : w.ownsRow 0 9 1 vn D.now.length (D.now.map encStr)
  waits : w.ownsRow 0 91 2 vw D.waits.length (wcells D.waits)
  ne : vk.ownBlock ≠ vn.ownBlock
  sa : S a
  sk : ∀ k, vk.ownBlock = some k → S k
  sn : ∀ k, vn.ownBlock = some k → S k
  sw : ∀ k, vw.ownBlock = some k → S k
  lo : ∀ k, S k → B ≤ k
  hi : ∀ k, S k → k < w.heap.size
  ok : D.Ok
def DiskAt (B : Nat) (w : World) (a : Nat) (D : Dsk) (S : Nat → Prop) : Prop := ∃ vk vn vw, DiskIn B w a D S vk vn vw

theorem spend_zero (b : Nat) (l : Int) (w : World) (h0 : l = 0) (hc : w.cell? ⟨b, 0, none⟩ = some (.int .i64 l)) :
    Calls Tryz.prog 54 #[.pointer (some ⟨b, 0, none⟩)] w fun e w' => e = .returned (.bool false) ∧ w' = w := by
  go_enter Tryz.func54, Tryz.ntmps54
  go_wp2
  go_ret
  exact ⟨rfl, rfl⟩
theorem spend_pos (b : Nat) (l : Int) (w : World) (h0 : 0 < l) (h1 : l ≤ 1000000) (hc : w.cell? ⟨b, 0, none⟩ = some (.int .i64 l)) (hf : w.frozen? ⟨b, 0, none⟩ = false) :
    Calls Tryz.prog 54 #[.pointer (some ⟨b, 0, none⟩)] w fun e w' => e = .returned (.bool true) ∧ w' = w.setCell ⟨b, 0, none⟩ (.int .i64 (l - 1)) := by
  go_enter Tryz.func54, Tryz.ntmps54
  go_wp2
  go_ret
  exact ⟨rfl, rfl⟩
theorem spend_neg (b : Nat) (l : Int) (w : World) (h0 : l < 0) (hc : w.cell? ⟨b, 0, none⟩ = some (.int .i64 l)) :
    Calls Tryz.prog 54 #[.pointer (some ⟨b, 0, none⟩)] w fun e w' => e = .returned (.bool true) ∧ w' = w := by
  go_enter Tryz.func54, Tryz.ntmps54
  go_wp2
  go_ret
  exact ⟨rfl, rfl⟩
/-- One act is spent: the power is not gone. -/
theorem spend_any (B : Nat) (a : Nat) (D : Dsk) (S : Nat → Prop) (vk vn vw : Value) (w : World) (h : DiskIn B w a D S vk vn vw) (h0 : D.left ≠ 0) :
    Calls Tryz.prog 54 #[.pointer (some ⟨a, 0, none⟩)] w fun e w' => e = .returned (.bool true) ∧ DiskIn B w' a { D with left := spent D.left } S vk vn vw ∧ Step S w S w' ∧ w'.heap.size = w.heap.size := by
  have hc : w.cell? ⟨a, 0, none⟩ = some (.int .i64 D.left) := h.blk.cell 0
  have hl := h.ok.left
  by_cases hp : 0 < D.left
  · refine (spend_pos a D.left w hp (by omega) hc (h.blk.free 0)).mono ?_
    rintro e w' ⟨rfl, rfl⟩
    have hs : Step S w S (w.setCell ⟨a, 0, none⟩ (.int .i64 (D.left - 1))) := (Step.refl S w).setCell (p := ⟨a, 0, none⟩) h.sa _
    have e1 : spent D.left = D.left - 1 := by simp [spent, hp]
    refine ⟨rfl, ?_, hs, by simp [World.setCell]⟩
    have g : ∀ {e size n : Nat} {v : Value} {xs : List Value}, w.ownsRow 0 e size v n xs → v.ownBlock ≠ some a → (w.setCell ⟨a, 0, none⟩ (.int .i64 (D.left - 1))).ownsRow 0 e size v n xs := by
      intro e size n v xs hr hne
      exact hr.kept (row := some a) ⟨rfl, rfl, rfl, by simp [World.setCell], fun k _ hk => Below.heap_setCell _ _ _ _ (fun e => hk (by simp [e]))⟩ (.inr hne)
    rw [e1]
    exact ⟨h.blk.set 0 _, g h.kept (row_ne_blk h.kept h.blk (by decide)), g h.now (row_ne_blk h.now h.blk (by decide)), g h.waits (row_ne_blk h.waits h.blk (by decide)), h.ne, h.sa, h.sk, h.sn, h.sw, h.lo,
      fun k hk => by have := h.hi k hk; simpa [World.setCell] using this, ⟨by simp only; omega, h.ok.len, h.ok.some, h.ok.most, h.ok.now, h.ok.kept, h.ok.waits⟩⟩
  · refine (spend_neg a D.left w (by omega) hc).mono ?_
    rintro e w' ⟨rfl, rfl⟩
    have e1 : spent D.left = D.left := by simp [spent, hp]
    refine ⟨rfl, ?_, Step.refl S w', rfl⟩
    rw [e1]; exact h
theorem repeat_zeros (n : Int) (h0 : 0 ≤ n) (hn : n ≤ 64) (w : World) :
    Calls Tryz.prog 28 #[.string ⟨#[0]⟩, .int .i64 n] w fun e w' => e = .returned (.string ⟨(zeros n.toNat).toArray⟩) ∧ Below w.heap.size w w' := by
  obtain ⟨n, rfl⟩ := Int.eq_ofNat_of_zero_le h0
  rw [Int.toNat_natCast]
  refine (Tryz.strings_Repeat ⟨#[0]⟩ n w (by omega) (by simp [ByteArray.size]; omega)).mono ?_
  rintro e w' ⟨rfl, hb⟩
  refine ⟨?_, hb⟩
  have : ∀ m, Lib.repeatL [(0 : UInt8)] m = zeros m := by
    intro m
    unfold zeros
    induction m with
    | zero => rfl
    | succ n ih => rw [List.replicate_succ, ← ih]; rfl
  simp [this]

/-- It returned v, and the world is as R says. -/
def Post (v : Value) (R : World → Prop) (e : Ending) (w' : World) : Prop := e = .returned v ∧ R w'
/-- The disk at a holds D now; nothing else of the old world has turned. -/
def Moves (B : Nat) (w : World) (a : Nat) (S : Nat → Prop) (D : Dsk) (w' : World) : Prop := ∃ S', DiskAt B w' a D S' ∧ Step S w S' w'
theorem new_cells (W : World) (xs : List Value) (T k : Nat) (hk : k = W.heap.size) : ∀ j u, xs[j]? = some u → (W.alloc (.cells xs.toArray T)).cell? ((⟨k, 0, none⟩ : Addr).add j) = some u := by
  subst hk
  intro j u hu
  have hadd : (⟨W.heap.size, 0, none⟩ : Addr).add j = ⟨W.heap.size, j, none⟩ := by unfold Addr.add; split <;> simp_all
  rw [hadd, (Blk.new W xs T).cell j]; exact hu
theorem row_set {w : World} {base e size n : Nat} {v : Value} {xs : List Value} (h : w.ownsRow base e size v n xs) (p : Addr) (u : Value) (hp : v.ownBlock ≠ some p.block) : (w.setCell p u).ownsRow base e size v n xs :=
  h.kept (row := some p.block) ⟨rfl, rfl, rfl, by simp [World.setCell], fun k _ hk => Below.heap_setCell _ _ _ _ (fun e => hk (by simp [e]))⟩ (.inr hp)
theorem Step.widen {S S1 T : Nat → Prop} {w w' : World} (h : Step S w S1 w') (hT : ∀ k, T k → S1 k ∨ w.heap.size ≤ k) : Step S w T w' :=
  ⟨h.os, h.tape, h.output, h.size, h.block, fun k hk => (hT k hk).elim (h.new k) .inr⟩
theorem wcells_snoc (l : List (Nat × Str)) (n : Nat) (s : Str) : wcells (l ++ [(n, s)]) = wcells l ++ [.int .i64 n, encStr s] := by simp [wcells]

theorem DiskIn.step {B : Nat} {w w' : World} {a : Nat} {D : Dsk} {S : Nat → Prop} {vk vn vw : Value} (h : DiskIn B w a D S vk vn vw) (hb : Below w.heap.size w w') : DiskIn B w' a D S vk vn vw := by
  have hs := Step.of_below hb Nil
  exact ⟨h.blk.step hs (fun h => h), row_step h.kept hs (fun _ _ h => h), row_step h.now hs (fun _ _ h => h), row_step h.waits hs (fun _ _ h => h), h.ne, h.sa, h.sk, h.sn, h.sw, h.lo, fun k hk => Nat.lt_of_lt_of_le (h.hi k hk) hb.size, h.ok⟩

theorem write_end {B a : Nat} {D : Dsk} {S : Nat → Prop} {n : Nat} {s : Str} {w w1 w2 w4 : World} {vk vw v' : Value} {gn cn : Nat} (hB : B ≤ w.heap.size) (hn : n < D.now.length) (hs : s.length ≤ 64) (h0 : D.left ≠ 0)
    (h : DiskIn B w a D S vk (.slice (some ⟨gn, 0, none⟩) D.now.length cn) vw) (hs1 : Step S w S w1) (hz : w1.heap.size = w.heap.size) (hb2 : Below w1.heap.size w1 w2)
    (h2 : DiskIn B w2 a { left := spent D.left, kept := D.kept, now := D.now, waits := D.waits } S vk (.slice (some ⟨gn, 0, none⟩) D.now.length cn) vw)
    (hga : gn ≠ a)
    (hown4 : w4.ownsRow 0 91 2 v' (D.waits.length + 1) (wcells D.waits ++ [.int .i64 n, encStr (pad s)]))
    (hgr4 : ((w2.setCell ⟨gn, n, none⟩ (.string ⟨(pad s).toArray⟩)).alloc (.cells #[.int .i64 n, .string ⟨(pad s).toArray⟩] 91)).grownBy w4 vw.ownBlock)
    (hloc4 : v'.ownBlock = vw.ownBlock ∨ v'.ownBlock = some (w2.heap.size + 1)) :
    Moves B w a S { left := spent D.left, kept := D.kept, now := D.now.set n (pad s), waits := D.waits ++ [(n, pad s)] } (w4.setCell ⟨a, 3, none⟩ v') := by
  have hnw : vw.ownBlock ≠ some a := row_ne_blk h2.waits h2.blk (by decide)
  have hb4 : Blk w4 a [.int .i64 (spent D.left), vk, .slice (some ⟨gn, 0, none⟩) D.now.length cn, vw] 67 :=
    ((h2.blk.set_other ⟨gn, n, none⟩ hga _).alloc _).grown hgr4 (fun e => hnw e.symm)
  have hs4 : Step S w S w4 := (((hs1.trans (Step.of_below hb2 S)).setCell (p := ⟨gn, n, none⟩) (h2.sn gn rfl) _).alloc _).grown hgr4 (fun k hk => h2.sw k hk)
  refine ⟨fun k => S k ∨ v'.ownBlock = some k, ⟨vk, .slice (some ⟨gn, 0, none⟩) D.now.length cn, v', ?_⟩, ?_⟩
  rotate_left
  · refine (hs4.widen (T := fun k => S k ∨ v'.ownBlock = some k) ?_).setCell (p := ⟨a, 3, none⟩) (.inl h.sa) _
    rintro k (hk | hk)
    · exact .inl hk
    · rcases hloc4 with e4 | e4
      · rw [e4] at hk; exact .inl (h2.sw k hk)
      · rw [e4] at hk; injection hk with hk; have := hb2.size; exact .inr (by omega)
  have gr : ∀ {e size m : Nat} {v : Value} {xs : List Value}, ((w2.setCell ⟨gn, n, none⟩ (.string ⟨(pad s).toArray⟩)).alloc (.cells #[.int .i64 n, encStr (pad s)] 91)).ownsRow 0 e size v m xs → e ≠ 91 → e ≠ 67 → v.ownBlock ≠ vw.ownBlock →
      (w4.setCell ⟨a, 3, none⟩ v').ownsRow 0 e size v m xs := by
    intro e size m v xs hr _ he2 hne
    have := hr.kept hgr4 (.inr hne)
    exact row_set this _ _ (row_ne_blk this hb4 he2)
  have hkw : vk.ownBlock ≠ vw.ownBlock := by
    obtain ⟨gk, ck, rfl, _⟩ := row_form h2.kept (by have := h.ok.len; have := h.ok.some; simp only; omega)
    exact fun e => row_ne_row h2.kept h2.waits (by decide) rfl e.symm
  have hnw2 : (Value.slice (some ⟨gn, 0, none⟩) D.now.length cn).ownBlock ≠ vw.ownBlock := fun e => row_ne_row h2.now h2.waits (by decide) rfl e.symm
  have hnow := (h2.now.stored n (encStr (pad s))).1.alloc (.cells #[.int .i64 n, encStr (pad s)] 91)
  have hok := h.ok.write n s
  have hw : D.write n s = (0, { left := spent D.left, kept := D.kept, now := D.now.set n (pad s), waits := D.waits ++ [(n, pad s)] }) := by
    unfold Dsk.write
    rw [if_neg (by omega), if_neg (by omega), if_neg h0]; simp
  rw [hw] at hok
  have hkept := gr ((row_set h2.kept ⟨gn, n, none⟩ (.string ⟨(pad s).toArray⟩) h.ne).alloc (.cells #[.int .i64 n, encStr (pad s)] 91)) (by decide) (by decide) hkw
  refine ⟨hb4.set 3 _, hkept, ?_, ?_, h.ne, .inl h.sa, fun k hk => .inl (h.sk k hk), fun k hk => .inl (h2.sn k hk), fun k hk => .inr hk, ?_, ?_, hok⟩
  · have := gr hnow (by decide) (by decide) hnw2
    simpa [List.map_set] using this
  · have := row_set hown4 ⟨a, 3, none⟩ v' (row_ne_blk hown4 hb4 (by decide))
    simpa [wcells_snoc] using this
  · rintro k (hk | hk)
    · exact h.lo k hk
    · rcases hloc4 with e4 | e4
      · rw [e4] at hk; exact h.lo k (h2.sw k hk)
      · rw [e4] at hk; injection hk with hk; have := hb2.size; omega
  · have hz5 : (w4.setCell ⟨a, 3, none⟩ v').heap.size = w4.heap.size := by simp [World.setCell]
    rw [hz5]
    rintro k (hk | hk)
    · exact Nat.lt_of_lt_of_le (h.hi k hk) hs4.size
    · exact row_lt hown4 hk

set_option maxHeartbeats 1000000 in
set_option maxRecDepth 100000 in
theorem write_ok (B : Nat) (a : Nat) (D : Dsk) (S : Nat → Prop) (n : Nat) (s : Str) (w : World) (h : DiskAt B w a D S) (hB : B ≤ w.heap.size) (hn : n < D.now.length) (hs : s.length ≤ 64) (h0 : D.left ≠ 0) (hm : D.waits.length ≤ 1000000) :
    Calls Tryz.prog 31 #[.pointer (some ⟨a, 0, none⟩), .int .i64 n, .string ⟨s.toArray⟩] w
      (Post .nilIface (Moves B w a S { left := spent D.left, kept := D.kept, now := D.now.set n (pad s), waits := D.waits ++ [(n, pad s)] })) := by
  obtain ⟨vk, vn, vw, h⟩ := h
  obtain ⟨i0, hi, hz0, hz1, hz2⟩ := info_parts (show (Tryz.prog.info? 91).map (fun i => (i.zero, i.size, i.bytes)) = some (some (.agg #[.int .i64 0, .string ⟨#[]⟩]), 2, 24) by kernel_rfl)
  have hmost := h.ok.most
  obtain ⟨gn, cn, rfl, -, hgn, -⟩ := row_form h.now h.ok.some
  have c2 : w.cell? ⟨a, 2, none⟩ = some (.slice (some ⟨gn, 0, none⟩) D.now.length cn) := h.blk.cell 2
  have k1 : decide ((n : Int) < 0) = false := by simp
  have k2 : decide ((D.now.length : Int) ≤ n) = false := by simp; omega
  have k3 : decide ((64 : Int) < (s.length : Int)) = false := by simp; omega
  go_enter Tryz.func31, Tryz.ntmps31
  go_wp2_with fail
  refine (spend_any B a D S vk _ vw _ h h0).mono ?_
  rintro e w1 ⟨rfl, h1, hs1, hz⟩
  clear c2
  go_wp2_with fail
  refine (repeat_zeros _ (by omega) (by omega) _).mono ?_
  rintro e w2 ⟨rfl, hb2⟩
  have h2 := h1.step hb2
  have c2 : w2.cell? ⟨a, 2, none⟩ = some (.slice (some ⟨gn, 0, none⟩) D.now.length cn) := h2.blk.cell 2
  have c3 : w2.cell? ⟨a, 3, none⟩ = some vw := h2.blk.cell 3
  have hzl : (zeros (64 - s.length)).length = 64 - s.length := by simp [zeros]
  have hcat : (⟨s.toArray⟩ : ByteArray) ++ ⟨(zeros (64 - s.length)).toArray⟩ = ⟨(pad s).toArray⟩ := by simp [pad]; rfl
  have xn : w2.cell? ⟨gn, n, none⟩ = some (encStr (D.now[n])) := by
    rw [h2.now.cellAt n (by simpa using hn)]; simp [hn]
  have fn : w2.frozen? ⟨gn, n, none⟩ = false := h2.now.frozenAt n
  have hga : gn ≠ a := fun e => row_ne_blk h2.now h2.blk (by decide) (by simp [Value.ownBlock, e])
  have hag : a ≠ gn := fun e => hga e.symm
  have hw3 : (w2.setCell ⟨gn, n, none⟩ (.string ⟨(pad s).toArray⟩)).ownsRow 0 91 2 vw D.waits.length (wcells D.waits) :=
    h2.waits.kept (row := some gn) ⟨rfl, rfl, rfl, by simp [World.setCell], fun k _ hk => Below.heap_setCell _ _ _ _ (fun e => hk (by simp [e]))⟩ (.inr (fun e => row_ne_row h2.waits h2.now (by decide) e rfl))
  go_wp2_with (at_builtin; refine wpList_append_own_at _ rfl _ _ 65 rfl 0 91 i0 (.agg #[.int .i64 0, .string ⟨#[]⟩]) 2 24 Tryz.underlying65 hi hz0 hz1 hz2 rfl (by decide) _ _ _ rfl (hw3.alloc _) ⟨w2.heap.size, 0, none⟩ 1 1 [.int .i64 n, encStr (pad s)] rfl rfl ?c1 ?c2 ?c3 ?c4 (Nat.zero_le _) ?_)
  case c1 => exact new_cells _ [.int .i64 n, encStr (pad s)] 91 _ (by simp [World.setCell])
  case c2 => intro u hu; simp at hu; rcases hu with rfl | rfl <;> rfl
  case c3 => unfold maxLen; omega
  case c4 => omega
  intro v' w4 hown4 hgr4 _ hloc4
  have hnw : vw.ownBlock ≠ some a := row_ne_blk h2.waits h2.blk (by decide)
  have hb4 : Blk w4 a [.int .i64 (spent D.left), vk, .slice (some ⟨gn, 0, none⟩) D.now.length cn, vw] 67 :=
    ((h2.blk.set_other ⟨gn, n, none⟩ hga _).alloc _).grown hgr4 (fun e => hnw e.symm)
  have d3 : w4.cell? ⟨a, 3, none⟩ = some vw := hb4.cell 3
  have e3 : w4.frozen? ⟨a, 3, none⟩ = false := hb4.free 3
  obtain ⟨Av, cv, hv'⟩ := row_slice hown4
  rw [hv'] at hown4 hloc4 ⊢
  clear hv'
  go_wp2
  go_ret
  exact ⟨rfl, write_end hB hn hs h0 h hs1 hz hb2 h2 hga hown4 hgr4 hloc4⟩
theorem Moves.refl {B a : Nat} {w : World} {S : Nat → Prop} {D : Dsk} (h : DiskAt B w a D S) : Moves B w a S D w := ⟨S, h, Step.refl S w⟩
/-- Nothing has turned but what no block holds. -/
theorem DiskAt.below {B a : Nat} {w w' : World} {S : Nat → Prop} {D : Dsk} (h : DiskAt B w a D S) (hb : Below w.heap.size w w') : DiskAt B w' a D S := by
  obtain ⟨vk, vn, vw, h⟩ := h
  exact ⟨vk, vn, vw, h.step hb⟩

set_option maxRecDepth 100000 in
theorem write_neg (B : Nat) (E : Nat → Addr) (a : Nat) (D : Dsk) (S : Nat → Prop) (n : Int) (s : Str) (w : World) (h : DiskAt B w a D S) (hE : Env B E w) (hn : n < 0) (hn2 : -9223372036854775808 ≤ n) :
    Calls Tryz.prog 31 #[.pointer (some ⟨a, 0, none⟩), .int .i64 n, .string ⟨s.toArray⟩] w (Post (errv E 2) (Moves B w a S D)) := by
  have g := hE.g0
  have k1 : decide (n < 0) = true := by simpa using hn
  go_enter Tryz.func31, Tryz.ntmps31
  go_wp2
  go_ret
  exact ⟨rfl, Moves.refl h⟩
set_option maxRecDepth 100000 in
theorem write_far (B : Nat) (E : Nat → Addr) (a : Nat) (D : Dsk) (S : Nat → Prop) (n : Int) (s : Str) (w : World) (h : DiskAt B w a D S) (hE : Env B E w) (hn : (D.now.length : Int) ≤ n) :
    Calls Tryz.prog 31 #[.pointer (some ⟨a, 0, none⟩), .int .i64 n, .string ⟨s.toArray⟩] w (Post (errv E 2) (Moves B w a S D)) := by
  have g := hE.g0
  have k1 : decide (n < 0) = false := by simp; omega
  obtain ⟨vk, vn, vw, h0⟩ := id h
  obtain ⟨gn, cn, rfl, -, hgn, -⟩ := row_form h0.now h0.ok.some
  have c2 : w.cell? ⟨a, 2, none⟩ = some (.slice (some ⟨gn, 0, none⟩) D.now.length cn) := h0.blk.cell 2
  have hm := Moves.refl h
  clear h h0 hgn
  go_enter Tryz.func31, Tryz.ntmps31
  go_wp2
  go_ret
  exact ⟨rfl, hm⟩
set_option maxRecDepth 100000 in
theorem write_long (B : Nat) (E : Nat → Addr) (a : Nat) (D : Dsk) (S : Nat → Prop) (n : Nat) (s : Str) (w : World) (h : DiskAt B w a D S) (hE : Env B E w) (hn : n < D.now.length) (hs : 64 < s.length) (hs2 : s.length ≤ 9223372036854775807) :
    Calls Tryz.prog 31 #[.pointer (some ⟨a, 0, none⟩), .int .i64 n, .string ⟨s.toArray⟩] w (Post (errv E 3) (Moves B w a S D)) := by
  have g := hE.g6
  have k1 : decide ((n : Int) < 0) = false := by simp
  obtain ⟨vk, vn, vw, h0⟩ := id h
  have hmost := h0.ok.most
  obtain ⟨gn, cn, rfl, -, hgn, -⟩ := row_form h0.now h0.ok.some
  have c2 : w.cell? ⟨a, 2, none⟩ = some (.slice (some ⟨gn, 0, none⟩) D.now.length cn) := h0.blk.cell 2
  have hm := Moves.refl h
  clear h h0 hgn
  go_enter Tryz.func31, Tryz.ntmps31
  go_wp2
  go_ret
  exact ⟨rfl, hm⟩
set_option maxRecDepth 100000 in
theorem write_dead (B : Nat) (E : Nat → Addr) (a : Nat) (D : Dsk) (S : Nat → Prop) (n : Nat) (s : Str) (w : World) (h : DiskAt B w a D S) (hE : Env B E w) (hn : n < D.now.length) (hs : s.length ≤ 64) (h0 : D.left = 0) :
    Calls Tryz.prog 31 #[.pointer (some ⟨a, 0, none⟩), .int .i64 n, .string ⟨s.toArray⟩] w (Post (errv E 9) (Moves B w a S D)) := by
  have g := hE.g2
  have k1 : decide ((n : Int) < 0) = false := by simp
  obtain ⟨vk, vn, vw, h1⟩ := id h
  have hmost := h1.ok.most
  obtain ⟨gn, cn, rfl, -, hgn, -⟩ := row_form h1.now h1.ok.some
  have c2 : w.cell? ⟨a, 2, none⟩ = some (.slice (some ⟨gn, 0, none⟩) D.now.length cn) := h1.blk.cell 2
  have c0 : w.cell? ⟨a, 0, none⟩ = some (.int .i64 D.left) := h1.blk.cell 0
  have hm := Moves.refl h
  clear h h1 hgn
  go_enter Tryz.func31, Tryz.ntmps31
  go_wp2_with (go_at_call 54; refine (spend_zero _ _ _ h0 c0).mono ?_; rintro e w' ⟨rfl, rfl⟩)
  go_ret
  exact ⟨rfl, hm⟩

/-- Disk.Write, at every number and text. -/
theorem write_any (B : Nat) (E : Nat → Addr) (a : Nat) (D : Dsk) (S : Nat → Prop) (n : Int) (s : Str) (w : World) (h : DiskAt B w a D S) (hE : Env B E w) (hn : -9223372036854775808 ≤ n) (hs : s.length ≤ 9223372036854775807) (hm : D.waits.length ≤ 1000000) :
    Calls Tryz.prog 31 #[.pointer (some ⟨a, 0, none⟩), .int .i64 n, .string ⟨s.toArray⟩] w (Post (errv E (D.write n s).1) (Moves B w a S (D.write n s).2)) := by
  unfold Dsk.write
  by_cases h1 : n < 0
  · rw [if_pos (.inl h1)]; exact write_neg B E a D S n s w h hE h1 hn
  · by_cases h2 : (D.now.length : Int) ≤ n
    · rw [if_pos (.inr h2)]; exact write_far B E a D S n s w h hE h2
    · rw [if_neg (by omega)]
      obtain ⟨n, rfl⟩ := Int.eq_ofNat_of_zero_le (show 0 ≤ n by omega)
      rw [Int.toNat_natCast]
      by_cases h3 : 64 < s.length
      · rw [if_pos h3]; exact write_long B E a D S n s w h hE (by omega) h3 hs
      · rw [if_neg h3]
        by_cases h4 : D.left = 0
        · rw [if_pos h4]; exact write_dead B E a D S n s w h hE (by omega) (by omega) h4
        · rw [if_neg h4]; exact write_ok B a D S n s w h hE.size (by omega) (by omega) h4 hm

/-- Disk.Sectors. -/
theorem sectors_any (B : Nat) (a : Nat) (D : Dsk) (S : Nat → Prop) (w : World) (h : DiskAt B w a D S) :
    Calls Tryz.prog 30 #[.pointer (some ⟨a, 0, none⟩)] w fun e w' => e = .returned (.int .i64 D.now.length) ∧ w' = w := by
  obtain ⟨vk, vn, vw, h1⟩ := id h
  obtain ⟨gn, cn, rfl, -, hgn, -⟩ := row_form h1.now h1.ok.some
  have c2 : w.cell? ⟨a, 2, none⟩ = some (.slice (some ⟨gn, 0, none⟩) D.now.length cn) := h1.blk.cell 2
  clear h h1 hgn
  go_enter Tryz.func30, Tryz.ntmps30
  go_wp2
  go_ret
  exact ⟨rfl, rfl⟩
/-- It returned a new row of strings. -/
def RowPost (w : World) (e : TypeId) (size n : Nat) (xs : List Value) (en : Ending) (w' : World) : Prop := ∃ v, en = .returned v ∧ w'.ownsRow w.heap.size e size v n xs ∧ Below w.heap.size w w'
theorem own_base {w : World} {b e size n : Nat} {v : Value} {xs : List Value} (h : w.ownsRow b e size v n xs) : w.ownsRow 0 e size v n xs := by
  refine ⟨h.1, ?_⟩
  rcases h.2 with h2 | ⟨g, cap, cur, rfl, hb, rest⟩
  · exact .inl h2
  · exact .inr ⟨g, cap, cur, rfl, Nat.zero_le _, rest⟩
theorem own_ge {w : World} {b e size n : Nat} {v : Value} {xs : List Value} (h : w.ownsRow b e size v n xs) {k : Nat} (hk : v.ownBlock = some k) : b ≤ k := (h.lt k hk).1

def bas (xs : List Str) : List ByteArray := xs.map fun l => ⟨l.toArray⟩
theorem clone_any (v : Value) (n : Nat) (xs : List Str) (w : World) (h : w.ownsRow 0 9 1 v n (xs.map encStr)) (hn : 0 < n) (hn2 : n ≤ 4000) :
    Calls Tryz.prog 29 #[v] w (RowPost w 9 1 n (xs.map encStr)) := by
  obtain ⟨g, cap, rfl, -, hg, -⟩ := row_form h hn
  have hl : xs.length = n := by have := h.1; simpa using this
  have hcell : ∀ j, j < (bas xs).length → w.cell? ⟨g, 0 + j, none⟩ = some (.string ((bas xs).getD j ByteArray.empty)) := by
    intro j hj
    have hj' : j < xs.length := by simpa [bas] using hj
    rw [Nat.zero_add, h.cellAt j (by omega)]
    simp [bas, List.getD_eq_getElem?_getD, List.getElem?_map, List.getElem?_eq_getElem hj']
  refine (Tryz.slices_Clone_string g 0 n cap (bas xs) w (by simp [bas]; omega) (by omega) hcell).mono ?_
  rintro e w' ⟨v', rfl, hown, hnil, hb⟩
  refine ⟨v', rfl, ?_, hb⟩
  have e1 : ((bas xs).take n).map Value.string = xs.map encStr := by
    rw [List.take_of_length_le (by simp [bas]; omega)]; simp [bas]
  rw [e1] at hown
  exact hown

theorem flush_end {B a : Nat} {D : Dsk} {S : Nat → Prop} {w w1 w2 : World} {vk vn vw v : Value} (hB : B ≤ w.heap.size) (h0 : D.left ≠ 0)
    (h : DiskIn B w a D S vk vn vw) (hs1 : Step S w S w1) (hz : w1.heap.size = w.heap.size) (hb2 : Below w1.heap.size w1 w2)
    (h2 : DiskIn B w2 a { left := spent D.left, kept := D.kept, now := D.now, waits := D.waits } S vk vn vw) (hv : w2.ownsRow w1.heap.size 9 1 v D.now.length (D.now.map encStr)) :
    Moves B w a S { left := spent D.left, kept := D.now, now := D.now, waits := [] } ((w2.setCell ⟨a, 1, none⟩ v).setCell ⟨a, 3, none⟩ (.slice none 0 0)) := by
  have hs2 : Step S w S w2 := hs1.trans (Step.of_below hb2 S)
  have hok := h.ok.flush
  have hw : D.flush = (0, { left := spent D.left, kept := D.now, now := D.now, waits := [] }) := by unfold Dsk.flush; rw [if_neg h0]
  rw [hw] at hok
  have hva : v.ownBlock ≠ some a := row_ne_blk hv h2.blk (by decide)
  have hna : vn.ownBlock ≠ some a := row_ne_blk h2.now h2.blk (by decide)
  have hvn : v.ownBlock ≠ vn.ownBlock := by
    obtain ⟨g, c, rfl, -, hg, -⟩ := row_form h.now h.ok.some
    intro e
    have : w1.heap.size ≤ g := own_ge hv e
    omega
  refine ⟨fun k => S k ∨ v.ownBlock = some k, ⟨v, vn, .slice none 0 0, ?_⟩, ?_⟩
  · refine ⟨(h2.blk.set 1 v).set 3 _, ?_, ?_, ⟨rfl, .inl ⟨rfl, rfl⟩⟩, hvn, .inl h.sa, fun k hk => .inr hk, fun k hk => .inl (h2.sn k hk), fun k hk => by simp [Value.ownBlock] at hk, ?_, ?_, hok⟩
    · exact row_set (row_set (own_base hv) ⟨a, 1, none⟩ v hva) ⟨a, 3, none⟩ _ hva
    · exact row_set (row_set h2.now ⟨a, 1, none⟩ v hna) ⟨a, 3, none⟩ _ hna
    · rintro k (hk | hk)
      · exact h.lo k hk
      · have := own_ge hv hk; omega
    · have hz5 : ((w2.setCell ⟨a, 1, none⟩ v).setCell ⟨a, 3, none⟩ (.slice none 0 0)).heap.size = w2.heap.size := by simp [World.setCell]
      rw [hz5]
      rintro k (hk | hk)
      · exact Nat.lt_of_lt_of_le (h.hi k hk) hs2.size
      · exact row_lt hv hk
  · refine ((hs2.widen (T := fun k => S k ∨ v.ownBlock = some k) ?_).setCell (p := ⟨a, 1, none⟩) (.inl h.sa) _).setCell (p := ⟨a, 3, none⟩) (.inl h.sa) _
    rintro k (hk | hk)
    · exact .inl hk
    · have := own_ge hv hk; exact .inr (by omega)

set_option maxHeartbeats 1000000 in
set_option maxRecDepth 100000 in
theorem flush_any (B : Nat) (E : Nat → Addr) (a : Nat) (D : Dsk) (S : Nat → Prop) (w : World) (h : DiskAt B w a D S) (hE : Env B E w) :
    Calls Tryz.prog 32 #[.pointer (some ⟨a, 0, none⟩)] w (Post (errv E D.flush.1) (Moves B w a S D.flush.2)) := by
  have hm := Moves.refl h
  obtain ⟨vk, vn, vw, h⟩ := h
  unfold Dsk.flush
  by_cases h0 : D.left = 0
  · rw [if_pos h0]
    have g := hE.g2
    have c0 : w.cell? ⟨a, 0, none⟩ = some (.int .i64 D.left) := h.blk.cell 0
    clear h
    go_enter Tryz.func32, Tryz.ntmps32
    go_wp2_with (go_at_call 54; refine (spend_zero _ _ _ h0 c0).mono ?_; rintro e w' ⟨rfl, rfl⟩)
    go_ret
    exact ⟨rfl, hm⟩
  · rw [if_neg h0]
    go_enter Tryz.func32, Tryz.ntmps32
    go_wp2_with fail
    refine (spend_any B a D S vk vn vw _ h h0).mono ?_
    rintro e w1 ⟨rfl, h1, hs1, hz⟩
    have c2 : w1.cell? ⟨a, 2, none⟩ = some vn := h1.blk.cell 2
    go_wp2_with fail
    refine (clone_any vn _ D.now _ h1.now h1.ok.some h1.ok.most).mono ?_
    rintro e w2 ⟨v, rfl, hv, hb2⟩
    have h2 := h1.step hb2
    have c1 : w2.cell? ⟨a, 1, none⟩ = some vk := h2.blk.cell 1
    have c3 : w2.cell? ⟨a, 3, none⟩ = some vw := h2.blk.cell 3
    have e1 : w2.frozen? ⟨a, 1, none⟩ = false := h2.blk.free 1
    have e3 : w2.frozen? ⟨a, 3, none⟩ = false := h2.blk.free 3
    obtain ⟨Av, cv, hv'⟩ := row_slice hv
    rw [hv'] at hv ⊢
    clear hv'
    go_wp2
    go_ret
    exact ⟨rfl, flush_end hE.size h0 h hs1 hz hb2 h2 hv⟩

/-- Disk.Read of a sector that is there. -/
theorem read_any (B : Nat) (a : Nat) (D : Dsk) (S : Nat → Prop) (n : Int) (w : World) (h : DiskAt B w a D S) (h0 : 0 ≤ n) (hn : n < D.now.length) :
    Calls Tryz.prog 62 #[.pointer (some ⟨a, 0, none⟩), .int .i64 n] w fun e w' => e = .returned (.tuple #[encStr (D.now.getD n.toNat []), .nilIface]) ∧ w' = w := by
  obtain ⟨n, rfl⟩ := Int.eq_ofNat_of_zero_le h0
  rw [Int.toNat_natCast]
  obtain ⟨vk, vn, vw, h1⟩ := id h
  have hmost := h1.ok.most
  obtain ⟨gn, cn, rfl, -, hgn, -⟩ := row_form h1.now h1.ok.some
  have c2 : w.cell? ⟨a, 2, none⟩ = some (.slice (some ⟨gn, 0, none⟩) D.now.length cn) := h1.blk.cell 2
  have hlt : n < D.now.length := by omega
  have cn : w.cell? ⟨gn, n, none⟩ = some (encStr (D.now.getD n [])) := by
    rw [h1.now.cellAt n (by omega)]; simp [hlt]
  have k1 : decide ((n : Int) < 0) = false := by simp
  generalize D.now.getD n [] = x at *
  clear h h1 hgn
  go_enter Tryz.func62, Tryz.ntmps62
  go_wp2
  go_ret2
  exact ⟨rfl, rfl⟩
theorem fail_any (B : Nat) (E : Nat → Addr) (a : Nat) (D : Dsk) (S : Nat → Prop) (n : Int) (w : World) (h : DiskAt B w a D S) (hE : Env B E w) (hn : -9223372036854775808 ≤ n) (hn2 : n ≤ 1000000) :
    Calls Tryz.prog 25 #[.pointer (some ⟨a, 0, none⟩), .int .i64 n] w (Post (errv E (D.fail n).1) (Moves B w a S (D.fail n).2)) := by
  have hm := Moves.refl h
  obtain ⟨vk, vn, vw, h⟩ := h
  have hok := h.ok.fail n hn2
  unfold Dsk.fail at hok ⊢
  by_cases h0 : n < 0
  · rw [if_pos h0]
    have g := hE.g0
    clear h hok
    go_enter Tryz.func25, Tryz.ntmps25
    go_wp2
    go_ret
    exact ⟨rfl, hm⟩
  · rw [if_neg h0] at hok ⊢
    have c0 : w.cell? ⟨a, 0, none⟩ = some (.int .i64 D.left) := h.blk.cell 0
    have f0 : w.frozen? ⟨a, 0, none⟩ = false := h.blk.free 0
    have hend : Moves B w a S { D with left := n } (w.setCell ⟨a, 0, none⟩ (.int .i64 n)) := by
      refine ⟨S, ⟨vk, vn, vw, h.blk.set 0 _, row_set h.kept ⟨a, 0, none⟩ _ (row_ne_blk h.kept h.blk (by decide)), row_set h.now ⟨a, 0, none⟩ _ (row_ne_blk h.now h.blk (by decide)), row_set h.waits ⟨a, 0, none⟩ _ (row_ne_blk h.waits h.blk (by decide)), h.ne, h.sa, h.sk, h.sn, h.sw, h.lo, fun k hk => by simpa [World.setCell] using h.hi k hk, hok⟩, (Step.refl S w).setCell (p := ⟨a, 0, none⟩) h.sa _⟩
    clear h hok
    go_enter Tryz.func25, Tryz.ntmps25
    go_wp2
    go_ret
    exact ⟨rfl, hend⟩

theorem land_append (keep : List Bool) : ∀ (xs ys : List (Nat × Str)) (i : Nat) (l : List Str), land keep i (xs ++ ys) l = land keep (i + xs.length) ys (land keep i xs l)
  | [], _, _, _ => by simp [land]
  | x :: r, ys, i, l => by
    rw [List.cons_append, land, land, land_append keep r ys (i + 1)]
    simp [Nat.add_assoc, Nat.add_comm 1]
theorem land_succ (keep : List Bool) (ws : List (Nat × Str)) (l : List Str) (i : Nat) (hi : i < ws.length) :
    land keep 0 (ws.take (i + 1)) l = if i < keep.length ∧ keep.getD i false = true then (land keep 0 (ws.take i) l).set (ws[i]).1 (ws[i]).2 else land keep 0 (ws.take i) l := by
  rw [List.take_succ_eq_append_getElem hi, land_append, land, land]
  simp [List.length_take, Nat.min_eq_left (Nat.le_of_lt hi)]

theorem wcells_at (ws : List (Nat × Str)) (i : Nat) (hi : i < ws.length) : (wcells ws)[i * 2]? = some (.int .i64 (ws[i]).1) ∧ (wcells ws)[i * 2 + 1]? = some (encStr (ws[i]).2) := by
  induction ws generalizing i with
  | nil => simp at hi
  | cons x r ih =>
    cases i with
    | zero => simp [wcells]
    | succ i =>
      have := ih i (by simpa using hi)
      simp only [wcells, List.flatMap_cons] at this ⊢
      rw [show (i + 1) * 2 = i * 2 + 1 + 1 by omega]
      simpa using this

/-- Between two rounds of Crash. -/
structure CrashAt (B : Nat) (w : World) (a : Nat) (D : Dsk) (S : Nat → Prop) (vk vn vw vb : Value) (keep : List Bool) (i : Nat) (wr : World) : Prop where
  disk : DiskIn B wr a { D with kept := land keep 0 (D.waits.take i) D.kept } S vk vn vw
  step : Step S w S wr
  keep : wr.ownsRow 0 4 1 vb keep.length (keep.map Value.bool)

theorem CrashAt.alloc {B : Nat} {w : World} {a : Nat} {D : Dsk} {S : Nat → Prop} {vk vn vw vb : Value} {keep : List Bool} {i : Nat} {wr : World} (h : CrashAt B w a D S vk vn vw vb keep i wr) (o : Obj) : CrashAt B w a D S vk vn vw vb keep i (wr.alloc o) :=
  ⟨h.disk.step ((Below.refl _ _).alloc (Nat.le_refl _) o), h.step.alloc o, h.keep.alloc o⟩
theorem CrashAt.drew {B : Nat} {w : World} {a : Nat} {D : Dsk} {S : Nat → Prop} {vk vn vw vb : Value} {keep : List Bool} {i : Nat} {wr : World} (h : CrashAt B w a D S vk vn vw vb keep i wr) : CrashAt B w a D S vk vn vw vb keep i wr.drew :=
  ⟨h.disk.step (Below.refl _ _).drew, h.step.drew, h.keep⟩
theorem CrashAt.skip {B : Nat} {w : World} {a : Nat} {D : Dsk} {S : Nat → Prop} {vk vn vw vb : Value} {keep : List Bool} {i : Nat} {wr : World} (h : CrashAt B w a D S vk vn vw vb keep i wr) (hi : i < D.waits.length) (hk : ¬ (i < keep.length ∧ keep.getD i false = true)) : CrashAt B w a D S vk vn vw vb keep (i + 1) wr := by
  refine ⟨?_, h.step, h.keep⟩
  have := h.disk
  rw [← if_neg (t := (land keep 0 (D.waits.take i) D.kept).set (D.waits[i]).1 (D.waits[i]).2) (e := land keep 0 (D.waits.take i) D.kept) hk, ← land_succ keep D.waits D.kept i hi] at this
  exact this
theorem CrashAt.store {B : Nat} {w : World} {a : Nat} {D : Dsk} {S : Nat → Prop} {vk vn vw vb : Value} {keep : List Bool} {i : Nat} {wr : World} {gk ck : Nat} (h : CrashAt B w a D S vk vn vw vb keep i wr) (hv : vk = .slice (some ⟨gk, 0, none⟩) D.kept.length ck) (hi : i < D.waits.length) (hk : i < keep.length ∧ keep.getD i false = true) (hbs : ∀ k, vb.ownBlock = some k → ¬ S k) :
    CrashAt B w a D S vk vn vw vb keep (i + 1) (wr.setCell ⟨gk, (D.waits[i]).1, none⟩ (encStr (D.waits[i]).2)) := by
  subst hv
  have hd := h.disk
  have hl : (land keep 0 (D.waits.take i) D.kept).length = D.kept.length := land_length _ _ _ _
  have hgs : S gk := hd.sk gk rfl
  have e1 : land keep 0 (D.waits.take (i + 1)) D.kept = (land keep 0 (D.waits.take i) D.kept).set (D.waits[i]).1 (D.waits[i]).2 := by rw [land_succ keep D.waits D.kept i hi, if_pos hk]
  refine ⟨?_, h.step.setCell (p := ⟨gk, _, none⟩) hgs _, row_set h.keep _ _ (fun e => hbs gk e hgs)⟩
  have hga : gk ≠ a := fun e => row_ne_blk hd.kept hd.blk (by decide) (by simp [Value.ownBlock, e])
  rw [e1]
  refine ⟨hd.blk.set_other _ hga _, ?_, row_set hd.now _ _ (fun e => hd.ne e.symm), row_set hd.waits _ _ (fun e => row_ne_row hd.waits hd.kept (by decide) e rfl), hd.ne, hd.sa, hd.sk, hd.sn, hd.sw, hd.lo, fun k hk => by simpa [World.setCell] using hd.hi k hk, ?_⟩
  · have h0 := hd.kept
    simp only [hl] at h0
    have := (h0.stored (D.waits[i]).1 (encStr (D.waits[i]).2)).1
    simpa [List.map_set, hl] using this
  · have ho := hd.ok
    refine ⟨ho.left, by simpa using ho.len, ho.some, ho.most, ho.now, ?_, ho.waits⟩
    intro x hx
    rcases List.mem_or_eq_of_mem_set hx with h4 | rfl
    · exact ho.kept x h4
    · exact (ho.waits _ (List.getElem_mem hi)).2

theorem crash_end {B a : Nat} {D : Dsk} {S : Nat → Prop} {w wr w2 : World} {vk vn vw vb v : Value} {keep : List Bool} (hB : B ≤ w.heap.size) (hok : (D.crash keep).Ok)
    (hC : CrashAt B w a D S vk vn vw vb keep D.waits.length wr) (hb2 : Below wr.heap.size wr w2) (hv : w2.ownsRow wr.heap.size 9 1 v D.kept.length ((land keep 0 D.waits D.kept).map encStr)) :
    Moves B w a S (D.crash keep) (((w2.setCell ⟨a, 2, none⟩ v).setCell ⟨a, 3, none⟩ (.slice none 0 0)).setCell ⟨a, 0, none⟩ (.int .i64 (-1))) := by
  have h := hC.disk
  rw [List.take_of_length_le (Nat.le_refl _)] at h
  have h2 := h.step hb2
  have hs2 : Step S w S w2 := hC.step.trans (Step.of_below hb2 S)
  have hva : v.ownBlock ≠ some a := row_ne_blk hv h2.blk (by decide)
  have hka : vk.ownBlock ≠ some a := row_ne_blk h2.kept h2.blk (by decide)
  have hvk : vk.ownBlock ≠ v.ownBlock := by
    obtain ⟨g, c, hg0, -, hg, -⟩ := row_form h.kept (by have := h.ok.len; have := h.ok.some; simp only at *; omega)
    subst hg0
    intro e
    have : wr.heap.size ≤ g := own_ge hv e.symm
    omega
  have hl : (land keep 0 D.waits D.kept).length = D.kept.length := land_length _ _ _ _
  refine ⟨fun k => S k ∨ v.ownBlock = some k, ⟨vk, v, .slice none 0 0, ?_⟩, ?_⟩
  · refine ⟨((h2.blk.set 2 v).set 3 _).set 0 _, ?_, ?_, ⟨rfl, .inl ⟨rfl, rfl⟩⟩, hvk, .inl h.sa, fun k hk => .inl (h2.sk k hk), fun k hk => .inr hk, fun k hk => by simp [Value.ownBlock] at hk, ?_, ?_, hok⟩
    · exact row_set (row_set (row_set h2.kept ⟨a, 2, none⟩ v hka) ⟨a, 3, none⟩ _ hka) ⟨a, 0, none⟩ _ hka
    · have hv0 := own_base hv
      rw [← hl] at hv0
      exact row_set (row_set (row_set hv0 ⟨a, 2, none⟩ v hva) ⟨a, 3, none⟩ _ hva) ⟨a, 0, none⟩ _ hva
    · rintro k (hk | hk)
      · exact h.lo k hk
      · have := own_ge hv hk; have := hC.step.size; omega
    · have hz5 : (((w2.setCell ⟨a, 2, none⟩ v).setCell ⟨a, 3, none⟩ (.slice none 0 0)).setCell ⟨a, 0, none⟩ (.int .i64 (-1))).heap.size = w2.heap.size := by simp [World.setCell]
      rw [hz5]
      rintro k (hk | hk)
      · exact Nat.lt_of_lt_of_le (h.hi k hk) hb2.size
      · exact row_lt hv hk
  · refine (((hs2.widen (T := fun k => S k ∨ v.ownBlock = some k) ?_).setCell (p := ⟨a, 2, none⟩) (.inl h.sa) _).setCell (p := ⟨a, 3, none⟩) (.inl h.sa) _).setCell (p := ⟨a, 0, none⟩) (.inl h.sa) _
    rintro k (hk | hk)
    · exact .inl hk
    · have := own_ge hv hk; have := hC.step.size; exact .inr (by omega)

set_option maxHeartbeats 1000000 in
set_option maxRecDepth 100000 in
theorem crash_any (B : Nat) (a : Nat) (D : Dsk) (S : Nat → Prop) (keep : List Bool) (vb : Value) (w : World) (h : DiskAt B w a D S) (hb : w.ownsRow 0 4 1 vb keep.length (keep.map Value.bool)) (hB : B ≤ w.heap.size)
    (hbs : ∀ k, vb.ownBlock = some k → ¬ S k) (hm : D.waits.length ≤ 1000000) :
    Calls Tryz.prog 22 #[.pointer (some ⟨a, 0, none⟩), vb] w (Post (.tuple #[]) (Moves B w a S (D.crash keep))) := by
  obtain ⟨vk, vn, vw, h⟩ := h
  obtain ⟨gk, ck, rfl, -, hgk, -⟩ := row_form h.kept (by have := h.ok.len; have := h.ok.some; omega)
  obtain ⟨Aw, cw, rfl⟩ := row_slice h.waits
  obtain ⟨Ab, cb, rfl⟩ := row_slice hb
  have c3 : w.cell? ⟨a, 3, none⟩ = some (.slice Aw D.waits.length cw) := h.blk.cell 3
  have hstart : CrashAt B w a D S (.slice (some ⟨gk, 0, none⟩) D.kept.length ck) vn (.slice Aw D.waits.length cw) (.slice Ab keep.length cb) keep 0 w := ⟨by simpa [land] using h, Step.refl S w, hb⟩
  have hok := h.ok.crash keep
  go_enter Tryz.func22, Tryz.ntmps22
  go_wp2
  go_loopw [11] (fun v11 wr => ∃ i : Nat, i ≤ D.waits.length ∧ v11 = .int .i64 i ∧ CrashAt B w a D S (.slice (some ⟨gk, 0, none⟩) D.kept.length ck) vn (.slice Aw D.waits.length cw) (.slice Ab keep.length cb) keep i wr) (fun v11 _ => D.waits.length - (intOf v11).toNat)
  case atStart => exact ⟨0, Nat.zero_le _, rfl, hstart⟩
  case round =>
    obtain ⟨i, hi, rfl, hC⟩ := hrel
    clear hstart c3 h hb
    by_cases hlt : i < D.waits.length
    · obtain ⟨gw, cw', hw, -, hgw, -⟩ := row_form hC.disk.waits (by simp only; omega)
      simp only [Value.slice.injEq, true_and] at hw
      obtain ⟨rfl, -⟩ := hw
      obtain ⟨y0, y1⟩ := wcells_at D.waits i hlt
      have z0 : wr.cell? ⟨gw, i * 2, none⟩ = some (.int .i64 (D.waits[i]).1) := by rw [hC.disk.waits.cellAt (i * 2) (by omega)]; exact y0
      have z1 : wr.cell? ⟨gw, i * 2 + 1, none⟩ = some (encStr (D.waits[i]).2) := by rw [hC.disk.waits.cellAt (i * 2 + 1) (by omega)]; exact y1
      clear y0 y1
      by_cases hk1 : i < keep.length
      · obtain ⟨gb, cb', hgb0, -, hgb, -⟩ := row_form hC.keep (by omega)
        simp only [Value.slice.injEq, true_and] at hgb0
        obtain ⟨rfl, -⟩ := hgb0
        have kb : wr.cell? ⟨gb, i, none⟩ = some (.bool (keep.getD i false)) := by rw [hC.keep.cellAt i (by omega)]; simp [hk1]
        by_cases hk3 : keep.getD i false = true
        · have c1 : wr.cell? ⟨a, 1, none⟩ = some (.slice (some ⟨gk, 0, none⟩) D.kept.length ck) := hC.disk.blk.cell 1
          have hn0 : (D.waits[i]).1 < D.kept.length := by have := (hC.disk.ok.waits _ (List.getElem_mem hlt)).1; have := hC.disk.ok.len; rw [land_length] at this; simp only at *; omega
          have hmo : D.kept.length ≤ 4000 := by have := hC.disk.ok.most; have := hC.disk.ok.len; rw [land_length] at this; simp only at *; omega
          have hend := (hC.store rfl hlt ⟨hk1, hk3⟩ hbs).alloc
          rw [hk3] at kb
          have hkr : wr.ownsRow 0 9 1 (.slice (some ⟨gk, 0, none⟩) D.kept.length ck) D.kept.length ((land keep 0 (D.waits.take i) D.kept).map encStr) := by
            have := hC.disk.kept
            simp only [land_length] at this
            exact this
          have hfz : wr.frozen? ⟨gk, (D.waits[i]).1, none⟩ = false := hkr.frozenAt _
          have hx : ∃ u, wr.cell? ⟨gk, (D.waits[i]).1, none⟩ = some u := by
            rw [hkr.cellAt _ (by omega)]
            exact ⟨_, List.getElem?_eq_getElem (by rw [List.length_map, land_length]; exact hn0)⟩
          obtain ⟨u, hx⟩ := hx
          have hgk2 : gk < wr.heap.size := row_lt hkr rfl
          have ha2 : a < wr.heap.size := hC.disk.blk.lt
          clear hC hk3 hkr hgk
          generalize hq : (D.waits[i]).1 = q at *
          generalize hr : (D.waits[i]).2 = r at *
          clear hq hr
          go_wp2
          go_region
          go_wp2
          go_roundw
          case rel => exact ⟨i + 1, by omega, by go_num, (hend _).drew⟩
          case measure => simp [intOf]; omega
        · have hk2 : ¬ (i < keep.length ∧ keep.getD i false = true) := fun h => hk3 h.2
          have hend := (hC.skip hlt hk2).alloc
          rw [Bool.eq_false_iff.2 hk3] at kb
          clear hC hk3 hk2
          go_wp2
          go_roundw
          case rel => exact ⟨i + 1, by omega, by go_num, hend _⟩
          case measure => simp [intOf]; omega
      · have hk2 : ¬ (i < keep.length ∧ keep.getD i false = true) := fun h => hk1 h.1
        have k1 : decide ((i : Int) < (keep.length : Int)) = false := by simp; omega
        go_wp2
        go_roundw
        case rel => exact ⟨i + 1, by omega, by go_num, (hC.skip hlt hk2).alloc _⟩
        case measure => simp [intOf]; omega
    · obtain rfl : i = D.waits.length := by omega
      have hlen : (land keep 0 D.waits D.kept).length = D.kept.length := land_length _ _ _ _
      have hkr : wr.ownsRow 0 9 1 (.slice (some ⟨gk, 0, none⟩) D.kept.length ck) D.kept.length ((land keep 0 D.waits D.kept).map encStr) := by
        have := hC.disk.kept
        rw [List.take_of_length_le (Nat.le_refl _)] at this
        simp only [hlen] at this
        exact this
      have c1 : wr.cell? ⟨a, 1, none⟩ = some (.slice (some ⟨gk, 0, none⟩) D.kept.length ck) := hC.disk.blk.cell 1
      have k0 : decide ((D.waits.length : Int) < (D.waits.length : Int)) = false := by simp
      have hmo : 0 < D.kept.length ∧ D.kept.length ≤ 4000 := by have := hC.disk.ok.most; have := hC.disk.ok.some; have := hC.disk.ok.len; rw [land_length] at this; simp only at *; omega
      go_wp2_with fail
      refine (clone_any _ _ (land keep 0 D.waits D.kept) _ hkr hmo.1 hmo.2).mono ?_
      rintro e w2 ⟨v, rfl, hv, hb2⟩
      have h2 := hC.disk.step hb2
      have c2 : w2.cell? ⟨a, 2, none⟩ = some vn := h2.blk.cell 2
      have c3 : w2.cell? ⟨a, 3, none⟩ = some (.slice Aw D.waits.length cw) := h2.blk.cell 3
      have c0 : w2.cell? ⟨a, 0, none⟩ = some (.int .i64 D.left) := h2.blk.cell 0
      have f2 : w2.frozen? ⟨a, 2, none⟩ = false := h2.blk.free 2
      have f3 : w2.frozen? ⟨a, 3, none⟩ = false := h2.blk.free 3
      have f0 : w2.frozen? ⟨a, 0, none⟩ = false := h2.blk.free 0
      have hend := crash_end hB hok hC hb2 hv
      obtain ⟨Av, cv, hv'⟩ := row_slice hv
      rw [hv'] at hend ⊢
      clear hv' hC h2 hkr
      go_wp2
      go_end0
      exact ⟨rfl, hend⟩
end Go.Proofs.YtokfddlknhijbaaGreatDoor
