/- The plain law of the store: how large its texts grow; one sync of a store in good order. -/
import Derived.Test.YtokfddlknhijbaaGreatDoorLaw5
namespace Go.Proofs.YtokfddlknhijbaaGreatDoor
open Go Go.RowKit Go.Maps
def txtSum (L : List Txt) : Nat := (L.map fun x => x.2.length).sum
/-- Texts that rise by name; at most n of them, of t bytes in all. -/
structure Fit (L : List Txt) (n t : Nat) : Prop where
  rising : Rising L
  len : L.length ≤ n
  names : ∀ x ∈ L, x.1.length ≤ 12
  text : txtSum L ≤ t
theorem Fit.nil : Fit [] 0 0 := ⟨List.Pairwise.nil, by simp, by simp, by simp [txtSum]⟩
theorem Fit.mono {L : List Txt} {n t n' t' : Nat} (h : Fit L n t) (hn : n ≤ n') (ht : t ≤ t') : Fit L n' t' :=
  ⟨h.rising, Nat.le_trans h.len hn, h.names, Nat.le_trans h.text ht⟩
theorem txtSum_drop (k : Str) : ∀ L : List Txt, txtSum (dropT L k) ≤ txtSum L
  | [] => by simp [dropT]
  | x :: r => by
    have ih := txtSum_drop k r
    unfold dropT txtSum at *
    rw [List.filter_cons]
    split
    · simp only [List.map_cons, List.sum_cons]; omega
    · simp only [List.map_cons, List.sum_cons]; omega
theorem txtSum_ins (x : Txt) : ∀ L : List Txt, txtSum (ins x L) = x.2.length + txtSum L
  | [] => by simp [ins, txtSum]
  | y :: r => by
    have ih := txtSum_ins x r
    unfold ins
    split
    · simp [txtSum]
    · unfold txtSum at *
      simp only [List.map_cons, List.sum_cons] at *
      omega
theorem mem_ins' (x y : Txt) : ∀ l : List Txt, x ∈ ins y l → x = y ∨ x ∈ l
  | [], h => by simp [ins] at h; exact .inl h
  | z :: r, h => by
    unfold ins at h
    split at h
    · rcases List.mem_cons.1 h with h | h
      · exact .inl h
      · exact .inr h
    · rcases List.mem_cons.1 h with h | h
      · exact .inr (h ▸ List.mem_cons_self ..)
      · rcases mem_ins' x y r h with h | h
        · exact .inl h
        · exact .inr (List.mem_cons_of_mem _ h)
theorem Fit.drop {L : List Txt} {n t : Nat} (h : Fit L n t) (k : Str) : Fit (dropT L k) n t :=
  ⟨h.rising.drop k, Nat.le_trans (List.length_filter_le _ _) h.len, fun x hx => h.names x (List.mem_filter.1 hx).1, Nat.le_trans (txtSum_drop k L) h.text⟩
theorem Fit.put {L : List Txt} {n t : Nat} (h : Fit L n t) {k tx : Str} (hk : isKey k = true) : Fit (mput L k tx) (n + 1) (t + tx.length) := by
  refine ⟨h.rising.mput k tx, Nat.le_trans (mput_length L k tx) (by have := h.len; omega), fun x hx => ?_, ?_⟩
  · rcases mem_ins' _ _ _ hx with rfl | hx
    · unfold isKey at hk
      simp at hk
      exact hk.1.2
    · exact h.names x (List.mem_filter.1 hx).1
  · unfold mput
    rw [txtSum_ins]
    have := txtSum_drop k L
    have := h.text
    simp only
    omega
theorem Fit.chg {L : List Txt} {n t : Nat} (h : Fit L n t) (c : Chg) : Fit (chgL L c) (n + 1) (t + c.text.length) := by
  unfold chgL
  split
  · split
    · exact h.mono (by omega) (by omega)
    · rename_i hn
      have hk : isKey c.name = true := by
        cases e : isKey c.name with
        | true => rfl
        | false => exact absurd (.inl e) hn
      rw [put_eq _ _ _ h.rising]
      exact h.put hk
  · split
    · exact (h.drop _).mono (by omega) (by omega)
    · exact h.mono (by omega) (by omega)
theorem packS_len (L : List Txt) : (packS L).length = (L.map fun x => 8 + x.1.length + x.2.length).sum := by
  induction L with
  | nil => rfl
  | cons x r ih =>
    have e : packS (x :: r) = item x.1 ++ item x.2 ++ packS r := by simp [packS]
    rw [e]
    simp only [List.length_append, item, be4_length, List.map_cons, List.sum_cons, ih]
    omega
theorem Fit.pack {L : List Txt} {n t : Nat} (h : Fit L n t) : (packS L).length ≤ 20 * n + t := by
  have hs : (packS L).length ≤ 20 * L.length + txtSum L := by
    rw [packS_len]
    have hn := h.names
    clear h
    induction L with
    | nil => simp [txtSum]
    | cons x r ih =>
      have h1 := hn x (List.mem_cons_self ..)
      have h2 := ih (fun y hy => hn y (List.mem_cons_of_mem _ hy))
      unfold txtSum at *
      simp only [List.map_cons, List.sum_cons, List.length_cons]
      omega
  have := h.len
  have := h.text
  omega
theorem Fit.pack0 {L : List Txt} {n t : Nat} (h : Fit L n t) : (packS L).length ≤ sizeOf0 L := by
  rw [packS_len]
  unfold sizeOf0
  have hn := h.names
  clear h
  induction L with
  | nil => simp
  | cons x r ih =>
    have h1 := hn x (List.mem_cons_self ..)
    have h2 := ih (fun y hy => hn y (List.mem_cons_of_mem _ hy))
    simp only [List.map_cons, List.sum_cons]
    omega
theorem txtSum_mem {L : List Txt} : ∀ x ∈ L, x.2.length ≤ txtSum L := by
  induction L with
  | nil => intro x hx; cases hx
  | cons y r ih =>
    intro x hx
    unfold txtSum at *
    simp only [List.map_cons, List.sum_cons]
    rcases List.mem_cons.1 hx with rfl | hx
    · omega
    · have := ih x hx; omega
theorem Fit.small {L : List Txt} {n t : Nat} (h : Fit L n t) (ht : t ≤ 1000000) : ∀ x ∈ L, x.1.length ≤ 1000000 ∧ x.2.length ≤ 1000000 := by
  intro x hx
  have h1 := h.names x hx
  have h2 := txtSum_mem x hx
  have := h.text
  omega
theorem Fit.tiny {L : List Txt} {n t : Nat} (h : Fit L n t) (ht : t ≤ 1000000) : ∀ x ∈ L, x.1.length < 4294967296 ∧ x.2.length < 4294967296 := by
  intro x hx
  have := h.small ht x hx
  omega

theorem wb_waits : ∀ (f : Nat) (D : Dsk) (n : Nat) (p : Str), (wb f D n p).2.waits.length ≤ D.waits.length + f
  | 0, _, _, _ => by simp [wb]
  | f + 1, D, n, p => by
    unfold wb
    split
    · simp
    · have h1 := write_waits D (n : Int) (p.take 64)
      simp only []
      split
      · have := wb_waits f (D.write (n : Int) (p.take 64)).2 (n + 1) (p.drop 64)
        omega
      · omega
theorem syncD_waits (D : Dsk) (k at' : Nat) (p : Str) : (syncD D k at' p).2.waits.length ≤ D.waits.length + up64 p.length + 1 := by
  unfold syncD
  have h1 := wb_waits (up64 p.length) D (2 + at' * halfN D) p
  generalize wb (up64 p.length) D (2 + at' * halfN D) p = r1 at *
  unfold syncT
  simp only []
  split
  · have h2 := flush_waits r1.2
    generalize r1.2.flush = r2 at *
    split
    · have h3 := write_waits r2.2 (((k + 1) % 2 : Nat) : Int) (headS (k + 1) at' p.length (crc p))
      unfold headW
      generalize r2.2.write (((k + 1) % 2 : Nat) : Int) (headS (k + 1) at' p.length (crc p)) = r3 at *
      split
      · have h4 := flush_waits r3.2
        omega
      · omega
    · omega
  · omega

/-- A disk that holds the texts L in the head k and the half h; nothing waits. -/
structure Good (D : Dsk) (L : List Txt) (k h : Nat) : Prop where
  calm : Calm D
  holds : Holds D L k h
theorem Good.crash {D : Dsk} {L : List Txt} {k h : Nat} (G : Good D L k h) (keep : List Bool) : Good (D.crash keep) L k h := by
  obtain ⟨e, hc⟩ := G.calm.crash keep
  exact ⟨hc, G.holds.same (by rw [e]) (fun j _ => by rw [e])⟩
theorem calm_crash (D : Dsk) (keep : List Bool) : Calm (D.crash keep) := ⟨rfl, rfl⟩
theorem Good.opens {D : Dsk} {L : List Txt} {k h n t : Nat} (G : Good D L k h) (F : Fit L n t) (hk : k < 4294967296) (hn : n ≤ 1000) (ht : t ≤ 1000000) : openS D = some (L, k, h) :=
  G.holds.opens hk (by have := F.pack; omega) F.rising (F.tiny ht)
structure Synced (D : Dsk) (L L0 : List Txt) (k h : Nat) (r : SyncR) : Prop where
  hc : r.c = 0
  hk : r.k = k + 1
  hh : r.h = 1 - h
  hdead : r.dead = false
  good : Good r.D L (k + 1) (1 - h)
  len : r.D.now.length = D.now.length
  left : D.left = -1 → r.D.left = -1
structure Cut (D : Dsk) (L L0 : List Txt) (k h : Nat) (r : SyncR) : Prop where
  left : D.left ≠ -1
  hc : r.c = 9
  hk : r.k = k
  hh : r.h = h
  hdead : r.dead = true
  len : r.D.now.length = D.now.length
  waits : r.D.waits.length ≤ 100000
  behind : ∀ keep, (Dsk.crash r.D keep).now.length = D.now.length ∧ (Good (Dsk.crash r.D keep) L0 k h ∨ Good (Dsk.crash r.D keep) L (k + 1) (1 - h))
theorem sync_step (D : Dsk) (L L0 : List Txt) (k h n t : Nat) (G : Good D L0 k h) (F : Fit L0 n t) (hk : k < 4000000000) (hn : n ≤ 1000) (ht : t ≤ 1000000) (h8 : 2 ≤ D.now.length) (hr : (packS L).length ≤ halfN D * 64) (hl : D.now.length ≤ 4000) :
    Synced D L L0 k h (syncR D L k h false) ∨ Cut D L L0 k h (syncR D L k h false) := by
  have hh := G.holds.hh
  have hp0 := F.pack
  have ho : Old D (k % 2) (k + 1) := by
    intro _
    rw [G.holds.head, (fld_head k h _ _ (by omega) (by omega) (by omega) (crc_lt _)).1]
    omega
  have hs := sync_ok D L k h h8 hh hr ho
  have hw := syncD_waits D k (1 - h) (packS L)
  obtain ⟨a1, a2, a3, a4, a5⟩ := hs
  unfold syncR
  rw [if_neg (by simp), if_neg (by omega)]
  simp only []
  generalize syncD D k (1 - h) (packS L) = r at *
  by_cases hc : r.1 = 0
  · rw [if_pos hc]
    obtain ⟨b1, b2⟩ := a4 hc
    exact .inl ⟨rfl, rfl, rfl, rfl, ⟨b1, b2⟩, a3, fun e => (a1 e).2⟩
  · rw [if_neg hc]
    obtain ⟨b1, b2⟩ := a5 hc G.calm
    have hu : up64 (packS L).length ≤ halfN D := up64_le hr
    have hN : halfN D = (D.now.length - 2) / 2 := rfl
    refine .inr ⟨fun e => hc (a1 e).1, ?_, rfl, rfl, rfl, a3, ?_, fun keep => ?_⟩
    · rcases a2 with e | e
      · exact absurd e hc
      · exact e
    · have e0 := G.calm.waits
      rw [e0] at hw
      simp only [List.length_nil] at hw ⊢
      omega
    · obtain ⟨c1, c2⟩ := b2 keep
      refine ⟨c1, ?_⟩
      rcases c2 with c2 | c2
      · exact .inl ⟨calm_crash _ _, c2 L0 G.holds⟩
      · exact .inr ⟨calm_crash _ _, c2⟩
theorem sync_full (D : Dsk) (L : List Txt) (k h : Nat) (hr : halfN D * 64 < (packS L).length) : syncR D L k h false = ⟨8, D, k, h, false⟩ := by
  unfold syncR
  rw [if_neg (by simp), if_pos hr]
theorem sync_dead (D : Dsk) (L : List Txt) (k h : Nat) : syncR D L k h true = ⟨9, D, k, h, true⟩ := by
  unfold syncR
  rw [if_pos rfl]
end Go.Proofs.YtokfddlknhijbaaGreatDoor
