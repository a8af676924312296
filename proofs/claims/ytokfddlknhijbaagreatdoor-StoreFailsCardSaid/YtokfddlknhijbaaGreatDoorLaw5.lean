/- The plain law of the store: the statements' lists of texts are the store's own. -/
import Derived.Test.YtokfddlknhijbaaGreatDoorLaw4
namespace Go.Proofs.YtokfddlknhijbaaGreatDoor
open Go Go.RowKit Go.Maps
theorem less_trans {a b c : Str} (h : Op.bytesLess a b = true) (k : Op.bytesLess b c = true) : Op.bytesLess a c = true := by
  rw [bytesLess_eq] at h k ⊢
  simp only [decide_eq_true_eq] at h k ⊢
  exact List.lt_trans h k
theorem less_total {a b : Str} (h : Op.bytesLess a b = false) (hne : a ≠ b) : Op.bytesLess b a = true := by
  rw [bytesLess_eq] at h ⊢
  simp only [decide_eq_true_eq, decide_eq_false_iff_not] at h ⊢
  have h2 : b ≤ a := List.not_lt.1 h
  rcases List.le_iff_lt_or_eq.1 h2 with h3 | h3
  · exact h3
  · exact absurd h3.symm hne
theorem Rising.drop {L : List Txt} (h : Rising L) (k : Str) : Rising (dropT L k) := List.Pairwise.filter _ h
theorem Rising.ins {L : List Txt} {x : Txt} (h : Rising L) (hx : ∀ y ∈ L, y.1 ≠ x.1) : Rising (ins x L) := by
  induction L with
  | nil => exact List.pairwise_singleton _ _
  | cons y r ih =>
    obtain ⟨h1, h2⟩ := List.pairwise_cons.1 h
    unfold Go.Proofs.YtokfddlknhijbaaGreatDoor.ins
    by_cases hb : Op.bytesLess x.1 y.1 = true
    · rw [if_pos hb]
      refine List.pairwise_cons.2 ⟨?_, h⟩
      intro z hz
      rcases List.mem_cons.1 hz with rfl | hz
      · exact hb
      · exact less_trans hb (h1 z hz)
    · rw [if_neg hb]
      refine List.pairwise_cons.2 ⟨?_, ih h2 (fun z hz => hx z (List.mem_cons_of_mem _ hz))⟩
      intro z hz
      have hyx : Op.bytesLess y.1 x.1 = true := less_total (by simpa using hb) (fun e => hx y (List.mem_cons_self ..) e.symm)
      have : z = x ∨ z ∈ r := by
        clear ih h hx h1 h2 hb hyx
        induction r with
        | nil => simp [Go.Proofs.YtokfddlknhijbaaGreatDoor.ins] at hz; exact .inl hz
        | cons w r ih =>
          unfold Go.Proofs.YtokfddlknhijbaaGreatDoor.ins at hz
          split at hz
          · rcases List.mem_cons.1 hz with h | h
            · exact .inl h
            · exact .inr h
          · rcases List.mem_cons.1 hz with h | h
            · exact .inr (h ▸ List.mem_cons_self ..)
            · rcases ih h with h | h
              · exact .inl h
              · exact .inr (List.mem_cons_of_mem _ h)
      rcases this with rfl | h
      · exact hyx
      · exact h1 z h
theorem dropT_ne {L : List Txt} {k : Str} : ∀ y ∈ dropT L k, y.1 ≠ k := by
  intro y hy
  have := (List.mem_filter.1 hy).2
  simpa using this
theorem Rising.mput {L : List Txt} (h : Rising L) (k t : Str) : Rising (mput L k t) := (h.drop k).ins dropT_ne
theorem putGo_true (name text : Str) : ∀ L : List Txt, putGo name text L true = dropT L name
  | [] => rfl
  | x :: r => by
    rw [putGo, if_neg (by simp), putGo_true name text r]
    unfold dropT
    by_cases h : x.1 = name
    · simp [h]
    · simp [h]
theorem ins_low {x : Txt} {L : List Txt} (h : ∀ y ∈ L, Op.bytesLess x.1 y.1 = true) : ins x L = x :: L := by
  cases L with
  | nil => rfl
  | cons y r => unfold ins; rw [if_pos (h y (List.mem_cons_self ..))]
/-- The statements' put is the map's put. -/
theorem put_eq (name text : Str) : ∀ L : List Txt, Rising L → put L name text = mput L name text
  | [], _ => rfl
  | x :: r, h => by
    obtain ⟨h1, h2⟩ := List.pairwise_cons.1 h
    have ih := put_eq name text r h2
    unfold put at ih ⊢
    rw [putGo]
    unfold mput at ih ⊢
    by_cases he : x.1 = name
    · have hl : leS name x.1 = true := by simp [leS, he]
      have hd : dropT (x :: r) name = dropT r name := by simp [dropT, he]
      rw [if_pos ⟨rfl, hl⟩, if_pos he, putGo_true, hd, ins_low]
      · rfl
      · intro y hy
        have := h1 y (List.mem_filter.1 hy).1
        rw [he] at this
        exact this
    · have hd : dropT (x :: r) name = x :: dropT r name := by simp [dropT, he]
      rw [hd, if_neg he]
      by_cases hl : Op.bytesLess name x.1 = true
      · have hl2 : leS name x.1 = true := by simp [leS, hl]
        rw [if_pos ⟨rfl, hl2⟩, putGo_true]
        unfold ins
        rw [if_pos hl]
        rfl
      · have hl2 : leS name x.1 = false := by
          have : (name == x.1) = false := by simp; exact fun e => he e.symm
          simp [leS, this, hl]
        rw [if_neg (by simp [hl2]), ih]
        have e : ins (name, text) (x :: dropT r name) = x :: ins (name, text) (dropT r name) := by
          show (if Op.bytesLess name x.1 = true then _ else _) = _
          rw [if_neg hl]
        rw [e]
        rfl
theorem findFrom_neg (name : Str) : ∀ (L : List Txt) (i : Nat), decide (findFrom name i L < 0) = !hasT L name
  | [], _ => by simp [findFrom, hasT]
  | x :: r, i => by
    have ih := findFrom_neg name r (i + 1)
    unfold findFrom
    unfold hasT at ih ⊢
    by_cases h : x.1 = name
    · rw [if_pos h]
      have : decide ((i : Int) < 0) = false := by simp
      rw [this]; simp [h]
    · rw [if_neg h, ih]
      simp [h]
/-- No name stands twice: what is found is what is held. -/
theorem find_neg (L : List Txt) (name : Str) : decide (find L name < 0) = !hasT L name := findFrom_neg name L 0
theorem findFrom_pos (name : Str) : ∀ (L : List Txt) (i : Nat), hasT L name = true → ∃ j : Nat, ∃ h : j < L.length, findFrom name i L = (i + j : Nat) ∧ (L[j]).1 = name ∧ look L name = (L[j]).2
  | [], _, h => by simp [hasT] at h
  | x :: r, i, h => by
    unfold findFrom
    by_cases he : x.1 = name
    · rw [if_pos he]
      exact ⟨0, by simp, by simp, he, by simp [look, he]⟩
    · rw [if_neg he]
      have h2 : hasT r name = true := by simpa [hasT, he] using h
      obtain ⟨j, hj, e1, e2, e3⟩ := findFrom_pos name r (i + 1) h2
      refine ⟨j + 1, by simp; omega, by rw [e1]; congr 1; omega, e2, ?_⟩
      have e4 : look (x :: r) name = look r name := by simp [look, he]
      rw [e4, e3]; rfl
theorem find_pos (L : List Txt) (name : Str) (h : hasT L name = true) : ∃ j : Nat, ∃ h : j < L.length, find L name = (j : Nat) ∧ (L[j]).1 = name ∧ look L name = (L[j]).2 := by
  obtain ⟨j, h1, h2, h3, h4⟩ := findFrom_pos name L 0 h
  exact ⟨j, h1, by unfold find; rw [h2]; simp, h3, h4⟩

/-! ### a change -/
structure Chg where
  kind : Str
  name : Str
  text : Str
def kPut : Str := [112, 117, 116]
def kDrop : Str := [100, 114, 111, 112]
def kSync : Str := [115, 121, 110, 99]
/-- What a change makes of the texts, and its error's number. -/
def chgL (now : List Txt) (c : Chg) : List Txt :=
  if c.kind = kPut then (if isKey c.name = false ∨ (hasT now c.name = false ∧ 100 ≤ now.length) then now else put now c.name c.text)
  else if c.kind = kDrop then dropT now c.name
  else now
def chgC (now : List Txt) (c : Chg) : Nat :=
  if c.kind = kPut then (if isKey c.name = false then 5 else if hasT now c.name = false ∧ 100 ≤ now.length then 2 else 0)
  else if c.kind = kDrop then (if hasT now c.name = false then 6 else 0)
  else 0
def chgS (now synced : List Txt) (c : Chg) : List Txt := if c.kind = kSync then now else synced
theorem dropT_none {L : List Txt} {k : Str} (h : hasT L k = false) : dropT L k = L := by
  unfold dropT
  rw [List.filter_eq_self]
  intro x hx
  unfold hasT at h
  rw [List.any_eq_false] at h
  have := h x hx
  simpa using this
theorem chgL_put {now : List Txt} {c : Chg} (h : c.kind = kPut) (hr : Rising now) (ht : c.text.length ≤ 300000) : putL now false c.name c.text = chgL now c ∧ putC now false c.name c.text = chgC now c := by
  have h3 : ¬ (300000 : Int) < (c.text.length : Int) := by omega
  unfold putL putC chgL chgC
  rw [if_pos h, if_pos h, put_eq _ _ _ hr]
  cases hk : isKey c.name with
  | false => simp
  | true =>
    cases hh : hasT now c.name with
    | true => simp [h3]
    | false =>
      by_cases hl : 100 ≤ now.length
      · have : (100 : Int) ≤ (now.length : Int) := by omega
        simp [h3, hl, this]
      · have : ¬ (100 : Int) ≤ (now.length : Int) := by omega
        simp [h3, hl, this]
theorem chgL_drop {now : List Txt} {c : Chg} (h : c.kind = kDrop) : dropL now false c.name = chgL now c ∧ dropC now false c.name = chgC now c := by
  have hn : c.kind ≠ kPut := by rw [h]; decide
  unfold dropL dropC chgL chgC
  rw [if_neg hn, if_pos h, if_neg hn, if_pos h]
  cases hh : hasT now c.name with
  | true => simp
  | false => simp [dropT_none hh]
end Go.Proofs.YtokfddlknhijbaaGreatDoor
