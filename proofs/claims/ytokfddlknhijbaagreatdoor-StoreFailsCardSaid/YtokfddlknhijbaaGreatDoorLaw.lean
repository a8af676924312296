/- The plain law of the store: what is packed is read again; the newest head wins. -/
import Derived.Test.YtokfddlknhijbaaGreatDoorClos
namespace Go.Proofs.YtokfddlknhijbaaGreatDoor
open Go Go.RowKit Go.Maps

theorem val_be4 (n : Nat) (h : n < 4294967296) : val (be4 n) = n := by
  have a : (UInt8.ofNat (n / 16777216)).toNat = n / 16777216 := by rw [UInt8.toNat_ofNat']; omega
  have b : (UInt8.ofNat (n / 65536 % 256)).toNat = n / 65536 % 256 := by rw [UInt8.toNat_ofNat']; omega
  have c : (UInt8.ofNat (n / 256 % 256)).toNat = n / 256 % 256 := by rw [UInt8.toNat_ofNat']; omega
  have d : (UInt8.ofNat (n % 256)).toNat = n % 256 := by rw [UInt8.toNat_ofNat']; omega
  simp only [val, be4, List.foldl_cons, List.foldl_nil, a, b, c, d]
  omega
theorem takeS_item (s r : Str) (h : s.length < 4294967296) : takeS (item s ++ r) = some (s, r) := by
  have h1 : (item s ++ r).take 4 = be4 s.length := by
    rw [item, List.append_assoc, List.take_append_of_le_length (by simp [be4_length])]
    exact List.take_of_length_le (by simp [be4_length])
  have h2 : (item s ++ r).drop 4 = s ++ r := by
    rw [item, List.append_assoc]
    exact List.drop_left' (be4_length _)
  have h3 : (item s ++ r).length = 4 + s.length + r.length := by simp [item, be4_length]; omega
  unfold takeS
  rw [h1, val_be4 _ h, if_pos (by omega), h2, ← List.drop_drop, h2]
  simp
theorem less_irrefl (a : Str) : Op.bytesLess a a = false := by rw [bytesLess_eq]; simp
theorem less_asymm {a b : Str} (h : Op.bytesLess a b = true) : Op.bytesLess b a = false := by
  rw [bytesLess_eq] at h ⊢
  simp only [decide_eq_true_eq, decide_eq_false_iff_not] at h ⊢
  exact List.not_lt.2 (List.le_of_lt h)
/-- A name above all others comes last. -/
theorem mput_last (L : List Txt) (k t : Str) (h : ∀ x ∈ L, Op.bytesLess x.1 k = true) : mput L k t = L ++ [(k, t)] := by
  have hd : dropT L k = L := by
    unfold dropT
    rw [List.filter_eq_self]
    intro x hx
    have := h x hx
    simp only [Bool.not_eq_true', beq_eq_false_iff_ne, ne_eq]
    intro e
    rw [e, less_irrefl] at this
    cases this
  unfold mput
  rw [hd]
  clear hd
  induction L with
  | nil => rfl
  | cons y r ih =>
    have hy := less_asymm (h y (List.mem_cons_self ..))
    unfold ins
    rw [if_neg (by simp [hy]), ih (fun x hx => h x (List.mem_cons_of_mem _ hx))]
    rfl
theorem parse_pack : ∀ (R : List Txt) (acc : List Txt) (f : Nat), Rising (acc ++ R) → (∀ x ∈ R, x.1.length < 4294967296 ∧ x.2.length < 4294967296) → (packS R).length ≤ f → parse f (packS R) acc = some (acc ++ R)
  | [], acc, f, _, _, _ => by cases f <;> simp [packS, parse]
  | x :: R, acc, f, hr, hl, hf => by
    obtain ⟨l1, l2⟩ := hl x (List.mem_cons_self ..)
    have e : packS (x :: R) = item x.1 ++ (item x.2 ++ packS R) := by simp [packS]
    have hi : (item x.1).length = 4 + x.1.length := by simp [item, be4_length]
    have hi2 : (item x.2).length = 4 + x.2.length := by simp [item, be4_length]
    rw [e] at hf
    simp only [List.length_append] at hf
    obtain ⟨f, rfl⟩ : ∃ g, f = g + 1 := ⟨f - 1, by omega⟩
    have hne : item x.1 ++ (item x.2 ++ packS R) ≠ [] := by intro e; have := congrArg List.length e; simp [hi] at this
    rw [e, parse, if_neg hne, takeS_item _ _ l1]
    simp only
    rw [takeS_item _ _ l2]
    simp only
    have hlt : ∀ y ∈ acc, Op.bytesLess y.1 x.1 = true := by
      intro y hy
      have := List.pairwise_append.1 hr
      exact this.2.2 y hy x (List.mem_cons_self ..)
    rw [mput_last acc _ _ hlt]
    have e2 : acc ++ x :: R = (acc ++ [x]) ++ R := by simp
    rw [e2]
    exact parse_pack R (acc ++ [x]) f (e2 ▸ hr) (fun y hy => hl y (List.mem_cons_of_mem _ hy)) (by omega)
/-- A head is what it says. -/
theorem hd0_length (k h n c : Nat) : (hd0 k h n c).length = 20 := by simp [hd0, be4_length]
theorem headS_length (k h n c : Nat) : (headS k h n c).length = 24 := by simp [headS, hd0_length, be4_length]
theorem pad_take (s : Str) (i j : Nat) (h : i + j ≤ s.length) : ((pad s).drop i).take j = (s.drop i).take j := by
  unfold pad
  rw [List.drop_append_of_le_length (by omega), List.take_append_of_le_length (by simp; omega)]
theorem fld_head (k h n c : Nat) (hk : k < 4294967296) (hh : h < 4294967296) (hn : n < 4294967296) (hc : c < 4294967296) :
    fld (pad (headS k h n c)) 4 = k ∧ fld (pad (headS k h n c)) 8 = h ∧ fld (pad (headS k h n c)) 12 = n ∧ fld (pad (headS k h n c)) 16 = c ∧ (pad (headS k h n c)).take 24 = headS k h n c ∧ Lib.hasPrefix (pad (headS k h n c)) cake = true := by
  have hl := headS_length k h n c
  refine ⟨?_, ?_, ?_, ?_, ?_, ?_⟩
  · unfold fld; rw [pad_take _ 4 4 (by omega)]; exact val_be4 k hk
  · unfold fld; rw [pad_take _ 8 4 (by omega)]; exact val_be4 h hh
  · unfold fld; rw [pad_take _ 12 4 (by omega)]; exact val_be4 n hn
  · unfold fld; rw [pad_take _ 16 4 (by omega)]; exact val_be4 c hc
  · unfold pad; rw [List.take_append_of_le_length (by omega), List.take_of_length_le (by omega)]
  · simp [Lib.hasPrefix, pad, headS, hd0, cake]
theorem headOk_head (D : Dsk) (k h n c : Nat) (hk : k < 4294967296) (hh : h ≤ 1) (hn : n ≤ halfN D * 64) (hn2 : n < 4294967296) (hc : c < 4294967296) : headOk D (pad (headS k h n c)) = true := by
  obtain ⟨e1, e2, e3, e4, e5, e6⟩ := fld_head k h n c hk (by omega) hn2 hc
  unfold headOk
  rw [e1, e2, e3, e4, e5, e6]
  simp
  omega
theorem headOk_zeros (D : Dsk) : headOk D (pad []) = false := by
  have : Lib.hasPrefix (pad []) cake = false := by decide
  unfold headOk; rw [this]; rfl
/-- The slot says the head, the half holds the body: the texts are read. -/
theorem readS_head (D : Dsk) (n : Nat) (L : List Txt) (k h : Nat) (hs : D.now.getD n [] = pad (headS k h (packS L).length (crc (packS L)))) (hb : bodyS D h (packS L).length = packS L) (hk : k < 4294967296) (hh : h ≤ 1)
    (hp : (packS L).length ≤ halfN D * 64) (hp2 : (packS L).length < 4294967296) (hr : Rising L) (hl : ∀ x ∈ L, x.1.length < 4294967296 ∧ x.2.length < 4294967296) : readS D n = some (L, k, h) := by
  obtain ⟨e1, e2, e3, e4, e5, e6⟩ := fld_head k h (packS L).length (crc (packS L)) hk (by omega) hp2 (crc_lt _)
  unfold readS
  rw [hs]
  simp only [headOk_head D k h _ _ hk hh hp hp2 (crc_lt _), if_true, e1, e2, e3, e4, hb, beq_self_eq_true]
  rw [parse_pack L [] _ (by simpa using hr) hl (Nat.le_refl _)]
  rfl
theorem readS_syncs (D : Dsk) (n : Nat) (y : List Txt × Nat × Nat) (h : readS D n = some y) : headOk D (D.now.getD n []) = true ∧ y.2.1 = fld (D.now.getD n []) 4 := by
  unfold readS at h
  cases hk : headOk D (D.now.getD n []) with
  | false => simp only [hk, Bool.false_eq_true, if_false] at h; cases h
  | true =>
    simp only [hk, if_true] at h
    split at h
    · obtain ⟨z, _, rfl⟩ := Option.map_eq_some_iff.1 h
      exact ⟨rfl, rfl⟩
    · cases h
/-- The sector n holds no head, or one older than k. -/
def Old (D : Dsk) (n k : Nat) : Prop := headOk D (D.now.getD n []) = true → fld (D.now.getD n []) 4 < k
/-- What a disk holds: the texts L, in the head k, in the half h. -/
structure Holds (D : Dsk) (L : List Txt) (k h : Nat) : Prop where
  head : D.now.getD (k % 2) [] = pad (headS k h (packS L).length (crc (packS L)))
  body : bodyS D h (packS L).length = packS L
  room : (packS L).length ≤ halfN D * 64
  old : Old D ((k + 1) % 2) k
  hh : h ≤ 1
theorem Holds.opens {D : Dsk} {L : List Txt} {k h : Nat} (H : Holds D L k h) (hk : k < 4294967296) (hp2 : (packS L).length < 4294967296) (hr : Rising L) (hl : ∀ x ∈ L, x.1.length < 4294967296 ∧ x.2.length < 4294967296) : openS D = some (L, k, h) := by
  have h1 := readS_head D (k % 2) L k h H.head H.body hk H.hh H.room hp2 hr hl
  have h2 : ∀ y, readS D ((k + 1) % 2) = some y → y.2.1 < k := fun y hy => by
    obtain ⟨a, b⟩ := readS_syncs D _ y hy
    rw [b]; exact H.old a
  show newer (newer none (readS D 0)) (readS D 1) = _
  rcases Nat.mod_two_eq_zero_or_one k with e | e
  · have e2 : (k + 1) % 2 = 1 := by omega
    rw [e] at h1; rw [e2] at h2
    rw [h1]
    cases hy : readS D 1 with
    | none => rfl
    | some y => have := h2 y hy; simp [newer]; omega
  · have e2 : (k + 1) % 2 = 0 := by omega
    rw [e] at h1; rw [e2] at h2
    rw [h1]
    cases hy : readS D 0 with
    | none => rfl
    | some y => have := h2 y hy; simp [newer, this]
end Go.Proofs.YtokfddlknhijbaaGreatDoor
