/- store.Put, Drop, Get. -/
import Derived.Test.YtokfddlknhijbaaGreatDoorPack2
import Derived.Test.YtokfddlknhijbaaGreatDoorName
import Derived.Test.YtokfddlknhijbaaGreatDoorNew
namespace Go.Proofs.YtokfddlknhijbaaGreatDoor
open Go Go.RowKit Go.Maps

/-- A store at block s: its disk at a, its map at mb. -/
structure StoreIn (B : Nat) (w : World) (s a mb : Nat) (D : Dsk) (L : List Txt) (k h : Nat) (dead : Bool) (S : Nat → Prop) : Prop where
  blk : Blk w s [.pointer (some ⟨a, 0, none⟩), .map (some mb), .int .u32 k, .int .i64 h, .bool dead] 77
  map : MapAt w mb L
  disk : DiskAt B w a D S
  ns : ¬ S s
  nm : ¬ S mb
  ls : B ≤ s
  lm : B ≤ mb
/-- The blocks that a store may turn. -/
def SS (s mb : Nat) (S : Nat → Prop) : Nat → Prop := fun k => k = s ∨ k = mb ∨ S k
theorem DiskAt.step {B : Nat} {w w' : World} {a : Nat} {D : Dsk} {S : Nat → Prop} (h : DiskAt B w a D S) (hb : Below w.heap.size w w') : DiskAt B w' a D S := by
  obtain ⟨vk, vn, vw, h⟩ := h
  exact ⟨vk, vn, vw, h.step hb⟩
theorem StoreIn.step {B : Nat} {w w' : World} {s a mb : Nat} {D : Dsk} {L : List Txt} {k h : Nat} {dead : Bool} {S : Nat → Prop} (H : StoreIn B w s a mb D L k h dead S) (hb : Below w.heap.size w w') : StoreIn B w' s a mb D L k h dead S :=
  ⟨H.blk.step (Step.of_below hb Nil) (fun h => h), H.map.step (Step.of_below hb Nil) (fun h => h), H.disk.step hb, H.ns, H.nm, H.ls, H.lm⟩
theorem StoreIn.mb_ne {B : Nat} {w : World} {s a mb : Nat} {D : Dsk} {L : List Txt} {k h : Nat} {dead : Bool} {S : Nat → Prop} (H : StoreIn B w s a mb D L k h dead S) : s ≠ mb := by
  rintro rfl
  obtain ⟨es, clock, he, _⟩ := H.map
  have := H.blk
  unfold Blk at this
  rw [he] at this
  cases this
/-- The map has turned, and nothing else. -/
theorem DiskAt.grown {B : Nat} {w w' : World} {a mb : Nat} {D : Dsk} {S : Nat → Prop} (h : DiskAt B w a D S) (hg : w.grownBy w' (some mb)) (hm : ¬ S mb) : DiskAt B w' a D S := by
  obtain ⟨vk, vn, vw, h⟩ := h
  have ne : ∀ {v : Value}, (∀ k, v.ownBlock = some k → S k) → v.ownBlock ≠ some mb := fun hv e => hm (hv _ e)
  refine ⟨vk, vn, vw, h.blk.grown hg (fun e => hm (by injection e with e; exact e ▸ h.sa)), h.kept.kept hg (.inr (ne h.sk)), h.now.kept hg (.inr (ne h.sn)), h.waits.kept hg (.inr (ne h.sw)), h.ne, h.sa, h.sk, h.sn, h.sw, h.lo, fun k hk => Nat.lt_of_lt_of_le (h.hi k hk) ?_, h.ok⟩
  exact hg.size
theorem StoreIn.turned {B : Nat} {w w' : World} {s a mb : Nat} {D : Dsk} {L L' : List Txt} {k h : Nat} {dead : Bool} {S : Nat → Prop} (H : StoreIn B w s a mb D L k h dead S) (hm : MapAt w' mb L') (hg : w.grownBy w' (some mb)) :
    StoreIn B w' s a mb D L' k h dead S ∧ Step (SS s mb S) w (SS s mb S) w' :=
  ⟨⟨H.blk.grown hg (by have := H.mb_ne; intro e; injection e with e; exact this e), hm, H.disk.grown hg H.nm, H.ns, H.nm, H.ls, H.lm⟩,
    (Step.refl _ _).grown hg (fun k e => by injection e with e; exact .inr (.inl e.symm))⟩

def putC (L : List Txt) (dead : Bool) (key text : Str) : Nat := if dead then 9 else if !isKey key then 5 else if decide ((300000 : Int) < text.length) || (!hasT L key && decide ((100 : Int) ≤ L.length)) then 2 else 0
def putL (L : List Txt) (dead : Bool) (key text : Str) : List Txt := if putC L dead key text = 0 then mput L key text else L
def StorePost (B : Nat) (w : World) (s a mb : Nat) (D : Dsk) (L : List Txt) (k h : Nat) (dead : Bool) (S : Nat → Prop) (v : Value) (e : Ending) (w' : World) : Prop :=
  e = .returned v ∧ ∃ S', StoreIn B w' s a mb D L k h dead S' ∧ Step (SS s mb S) w (SS s mb S') w'
theorem StorePost.same {B : Nat} {w w' : World} {s a mb : Nat} {D : Dsk} {L : List Txt} {k h : Nat} {dead : Bool} {S : Nat → Prop} {v : Value} (H : StoreIn B w s a mb D L k h dead S) (hb : Below w.heap.size w w') : StorePost B w s a mb D L k h dead S v (.returned v) w' :=
  ⟨rfl, S, H.step hb, Step.of_below hb _⟩

set_option maxHeartbeats 1000000 in
set_option maxRecDepth 100000 in
theorem put2_any (B : Nat) (E : Nat → Addr) (s a mb : Nat) (D : Dsk) (L : List Txt) (k h : Nat) (dead : Bool) (S : Nat → Prop) (key text : Str) (w : World) (H : StoreIn B w s a mb D L k h dead S) (hE : Env B E w)
    (hk : key.length ≤ 1000000) (ht : text.length ≤ 1000000) (hL : L.length ≤ 1000000) :
    Calls Tryz.prog 11 #[.pointer (some ⟨s, 0, none⟩), encStr key, encStr text] w (StorePost B w s a mb D (putL L dead key text) k h dead S (errv E (putC L dead key text))) := by
  have c1 : w.cell? ⟨s, 1, none⟩ = some (.map (some mb)) := H.blk.cell 1
  have c4 : w.cell? ⟨s, 4, none⟩ = some (.bool dead) := H.blk.cell 4
  have lk := map_look_ok H.map hk
  show Calls Tryz.prog 11 #[.pointer (some ⟨s, 0, none⟩), .string ⟨key.toArray⟩, .string ⟨text.toArray⟩] w _
  unfold putL putC
  cases hd : dead with
  | true =>
    subst hd
    have g2 : w.cell? ⟨2, 0, none⟩ = some (errv E 9) := hE.g2
    go_enter Tryz.func11, Tryz.ntmps11
    go_wp2_with fail
    go_ret
    exact StorePost.same H (Below.refl _ _)
  | false =>
    subst hd
    have hn := name_any key (by omega) w
    cases hky : isKey key with
    | false =>
      rw [hky] at hn
      go_enter Tryz.func11, Tryz.ntmps11
      go_wp2_with fail
      refine hn.mono ?_
      rintro e w1 ⟨rfl, hb1⟩
      have g3 : w1.cell? ⟨3, 0, none⟩ = some (errv E 5) := (hE.below (hb1.mono hE.size)).g3
      go_wp2_with fail
      go_ret
      exact StorePost.same H hb1
    | true =>
      rw [hky] at hn
      simp only [Bool.false_eq_true, if_false, Bool.not_true]
      cases hb1 : decide ((300000 : Int) < text.length) with
      | true =>
        go_enter Tryz.func11, Tryz.ntmps11
        go_wp2_with fail
        refine hn.mono ?_
        rintro e w1 ⟨rfl, hbw⟩
        have g0 : w1.cell? ⟨0, 0, none⟩ = some (errv E 2) := (hE.below (hbw.mono hE.size)).g0
        go_wp2_with fail
        go_ret
        exact StorePost.same H hbw
      | false =>
        have fin : ∀ w1, Below w.heap.size w w1 → ∃ w2, (Instr.mapUpdate 74 (.map (some mb)) (.string ⟨key.toArray⟩) (.string ⟨text.toArray⟩)).run Tryz.prog w1 = .ok () w2 ∧ StorePost B w s a mb D (mput L key text) k h false S .nilIface (.returned .nilIface) w2 := by
          intro w1 hbw
          have H1 := H.step hbw
          obtain ⟨w2, hr, hm, hg⟩ := map_put H1.map hL hk ht
          obtain ⟨H2, hs2⟩ := H1.turned hm hg
          exact ⟨w2, hr, rfl, S, H2, (Step.of_below hbw _).trans hs2⟩
        have FIN := Lib.hid fin
        clear fin
        cases hh : hasT L key with
        | true =>
          rw [hh] at lk
          go_enter Tryz.func11, Tryz.ntmps11
          go_wp2_with fail
          refine hn.mono ?_
          rintro e w1 ⟨rfl, hbw⟩
          have c1' : w1.cell? ⟨s, 1, none⟩ = some (.map (some mb)) := (H.step hbw).blk.cell 1
          obtain ⟨w2, hr, hp⟩ := FIN.out w1 hbw
          go_wp2_with fail
          go_ret
          exact hp
        | false =>
          rw [hh] at lk
          cases hb2 : decide ((100 : Int) ≤ L.length) with
          | true =>
            go_enter Tryz.func11, Tryz.ntmps11
            go_wp2_with fail
            refine hn.mono ?_
            rintro e w1 ⟨rfl, hbw⟩
            have c1' : w1.cell? ⟨s, 1, none⟩ = some (.map (some mb)) := (H.step hbw).blk.cell 1
            have ml := map_len (H.step hbw).map
            have g0 : w1.cell? ⟨0, 0, none⟩ = some (errv E 2) := (hE.below (hbw.mono hE.size)).g0
            go_wp2_with fail
            go_ret
            exact StorePost.same H hbw
          | false =>
            go_enter Tryz.func11, Tryz.ntmps11
            go_wp2_with fail
            refine hn.mono ?_
            rintro e w1 ⟨rfl, hbw⟩
            have c1' : w1.cell? ⟨s, 1, none⟩ = some (.map (some mb)) := (H.step hbw).blk.cell 1
            have ml := map_len (H.step hbw).map
            obtain ⟨w2, hr, hp⟩ := FIN.out w1 hbw
            go_wp2_with fail
            go_ret
            exact hp

def dropC (L : List Txt) (dead : Bool) (key : Str) : Nat := if dead then 9 else if !hasT L key then 6 else 0
def dropL (L : List Txt) (dead : Bool) (key : Str) : List Txt := if dropC L dead key = 0 then dropT L key else L
set_option maxHeartbeats 1000000 in
set_option maxRecDepth 100000 in
theorem drop2_any (B : Nat) (E : Nat → Addr) (s a mb : Nat) (D : Dsk) (L : List Txt) (k h : Nat) (dead : Bool) (S : Nat → Prop) (key : Str) (w : World) (H : StoreIn B w s a mb D L k h dead S) (hE : Env B E w)
    (hk : key.length ≤ 1000000) :
    Calls Tryz.prog 39 #[.pointer (some ⟨s, 0, none⟩), encStr key] w (StorePost B w s a mb D (dropL L dead key) k h dead S (errv E (dropC L dead key))) := by
  have c1 : w.cell? ⟨s, 1, none⟩ = some (.map (some mb)) := H.blk.cell 1
  have c4 : w.cell? ⟨s, 4, none⟩ = some (.bool dead) := H.blk.cell 4
  have lk := map_look_ok H.map hk
  show Calls Tryz.prog 39 #[.pointer (some ⟨s, 0, none⟩), .string ⟨key.toArray⟩] w _
  unfold dropL dropC
  cases hd : dead with
  | true =>
    subst hd
    have g2 : w.cell? ⟨2, 0, none⟩ = some (errv E 9) := hE.g2
    go_enter Tryz.func39, Tryz.ntmps39
    go_wp2_with fail
    go_ret
    exact StorePost.same H (Below.refl _ _)
  | false =>
    subst hd
    cases hh : hasT L key with
    | false =>
      rw [hh] at lk
      have g5 : w.cell? ⟨5, 0, none⟩ = some (errv E 6) := hE.g5
      go_enter Tryz.func39, Tryz.ntmps39
      go_wp2_with fail
      go_ret
      exact StorePost.same H (Below.refl _ _)
    | true =>
      rw [hh] at lk
      obtain ⟨w2, hr, hm, hg⟩ := map_drop H.map hk 0
      have hp := H.turned hm hg
      go_enter Tryz.func39, Tryz.ntmps39
      go_wp2_with fail
      go_ret
      exact ⟨rfl, S, hp.1, hp.2⟩

def getC (L : List Txt) (key : Str) : Nat := if hasT L key then 0 else 6
def getS (L : List Txt) (key : Str) : Str := if hasT L key then look L key else []
set_option maxRecDepth 100000 in
theorem get2_any (B : Nat) (E : Nat → Addr) (s a mb : Nat) (D : Dsk) (L : List Txt) (k h : Nat) (dead : Bool) (S : Nat → Prop) (key : Str) (w : World) (H : StoreIn B w s a mb D L k h dead S) (hE : Env B E w)
    (hk : key.length ≤ 1000000) :
    Calls Tryz.prog 23 #[.pointer (some ⟨s, 0, none⟩), encStr key] w fun e w' => e = .returned (.tuple #[encStr (getS L key), errv E (getC L key)]) ∧ Below w.heap.size w w' := by
  have c1 : w.cell? ⟨s, 1, none⟩ = some (.map (some mb)) := H.blk.cell 1
  have lk := map_look_ok H.map hk
  show Calls Tryz.prog 23 #[.pointer (some ⟨s, 0, none⟩), .string ⟨key.toArray⟩] w _
  unfold getC getS
  cases hh : hasT L key with
  | false =>
    rw [hh] at lk
    have g5 : w.cell? ⟨5, 0, none⟩ = some (errv E 6) := hE.g5
    go_enter Tryz.func23, Tryz.ntmps23
    go_wp2_with fail
    go_quiet (fail)
    go_wp2_with fail
    go_ret2
    exact ⟨rfl, below_drewN (Below.refl _ _) _⟩
  | true =>
    rw [hh] at lk
    go_enter Tryz.func23, Tryz.ntmps23
    go_wp2_with fail
    go_ret2
    exact ⟨rfl, Below.refl _ _⟩
end Go.Proofs.YtokfddlknhijbaaGreatDoor
