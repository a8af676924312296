/- PutText, DropText: lists of texts. -/
import Derived.Test.YtokfddlknhijbaaGreatDoorTexts
namespace Go.Proofs.YtokfddlknhijbaaGreatDoor
open Go Go.RowKit
def leS (a b : Str) : Bool := Op.bytesLess a b || a == b
def putGo (name text : Str) : List Txt → Bool → List Txt
  | [], done => if done = true then [] else [(name, text)]
  | x :: r, done => if done = false ∧ leS name x.1 = true then (name, text) :: ((if x.1 = name then [] else [x]) ++ putGo name text r true) else (if x.1 = name then [] else [x]) ++ putGo name text r done
def put (l : List Txt) (name text : Str) : List Txt := putGo name text l false
def dropT (l : List Txt) (name : Str) : List Txt := l.filter fun x => !(x.1 == name)

/-- What has been collected, in memory of the call's own. -/
structure OutAt (w : World) (v : Value) (acc : List Txt) (wr : World) : Prop where
  row : wr.ownsRow w.heap.size 59 2 v acc.length (tcells acc)
  below : Below w.heap.size w wr
theorem OutAt.snoc {w wr w4 : World} {v v' : Value} {acc : List Txt} {x : Txt} (h : OutAt w v acc wr) (o : Obj) (hown : w4.ownsRow w.heap.size 59 2 v' (acc.length + 1) (tcells acc ++ [encStr x.1, encStr x.2])) (hg : (wr.alloc o).grownBy w4 v.ownBlock) : OutAt w v' (acc ++ [x]) w4 :=
  ⟨by simpa [tcells_snoc] using hown, (h.below.alloc h.below.size o).grown hg (by have := h.below.size; simp; omega) (fun k hk => (h.row.lt k hk).1)⟩
theorem OutAt.post {w wr : World} {v : Value} {acc : List Txt} (h : OutAt w v acc wr) : RowPost w 59 2 acc.length (tcells acc) (.returned v) wr := ⟨v, rfl, h.row, h.below⟩

set_option maxHeartbeats 1000000 in
set_option maxRecDepth 100000 in
theorem drop_any (v : Value) (l : List Txt) (name : Str) (w : World) (h : TextsAt w v l) (hl : l.length ≤ 1000) :
    Calls Tryz.prog 38 #[v, .string ⟨name.toArray⟩] w (RowPost w 59 2 (dropT l name).length (tcells (dropT l name))) := by
  obtain ⟨i0, hi, hz0, hz1, hz2⟩ := info_parts (show (Tryz.prog.info? 59).map (fun i => (i.zero, i.size, i.bytes)) = some (some (.agg #[.string ⟨#[]⟩, .string ⟨#[]⟩]), 2, 32) by kernel_rfl)
  unfold TextsAt at h
  obtain ⟨A, c, rfl⟩ := row_slice h
  go_enter Tryz.func38, Tryz.ntmps38
  go_wp2
  go_loopw [5, 6] (fun v5 v6 wr => ∃ k : Nat, k ≤ l.length ∧ v6 = .int .i64 k ∧ OutAt w v5 (dropT (l.take k) name) wr) (fun _ v6 _ => l.length - (intOf v6).toNat)
  case atStart => exact ⟨0, Nat.zero_le _, rfl, World.ownsRow_nil _ _ _ _, Below.refl _ _⟩
  case round =>
    obtain ⟨k, hk, rfl, hO⟩ := hrel
    by_cases hlt : k < l.length
    · obtain ⟨g, c', hg, -, hgl, -⟩ := row_form h (by omega)
      simp only [Value.slice.injEq, true_and] at hg
      obtain ⟨rfl, -⟩ := hg
      have z0 : wr.cell? ⟨g, k * 2, none⟩ = some (encStr (l[k]).1) := by rw [hO.below.cell (p := ⟨g, _, none⟩) hgl, h.cellAt _ (by omega)]; exact (tcells_at l k hlt).1
      have z1 : wr.cell? ⟨g, k * 2 + 1, none⟩ = some (encStr (l[k]).2) := by rw [hO.below.cell (p := ⟨g, _, none⟩) hgl, h.cellAt _ (by omega)]; exact (tcells_at l k hlt).2
      have hts : dropT (l.take (k + 1)) name = dropT (l.take k) name ++ dropT [l[k]] name := by rw [List.take_succ_eq_append_getElem hlt, dropT, List.filter_append]; rfl
      have hlen : (dropT (l.take k) name).length ≤ k := Nat.le_trans (List.length_filter_le _ _) (by simp; omega)
      rcases hxy : l[k] with ⟨x, y⟩
      rw [hxy] at z0 z1 hts
      simp only at z0 z1
      clear h hxy
      generalize dropT (l.take k) name = acc at *
      by_cases he : x = name
      · have hb : (x == name) = true := by simp [he]
        have hd : dropT [(x, y)] name = [] := by simp [dropT, he]
        rw [hd, List.append_nil] at hts
        have HT := Lib.hid hts
        clear hts hd he
        go_wp2
        go_roundw
        case rel => exact ⟨k + 1, by omega, by go_num, by rw [HT.out]; exact hO⟩
        case measure => simp [intOf]; omega
      · have hb : (x == name) = false := by simp [he]
        have hd : dropT [(x, y)] name = [(x, y)] := by simp [dropT, he]
        rw [hd] at hts
        have HT := Lib.hid hts
        clear hts hd he
        go_wp2_with (at_builtin; refine wpList_append_own_at _ rfl _ _ 38 rfl w.heap.size 59 i0 (.agg #[.string ⟨#[]⟩, .string ⟨#[]⟩]) 2 32 Tryz.underlying38 hi hz0 hz1 hz2 rfl (by decide) _ _ _ rfl (hO.row.alloc _) ⟨wr.heap.size, 0, none⟩ 1 1 [encStr x, encStr y] rfl rfl ?c1 ?c2 ?c3 ?c4 ?c5 ?_)
        case c1 => exact new_cells _ [encStr x, encStr y] 59 _ rfl
        case c2 => intro u hu; simp at hu; rcases hu with rfl | rfl <;> rfl
        case c3 => unfold maxLen; omega
        case c4 => omega
        case c5 => have := hO.below.size; simp; omega
        intro v' w4 hown4 hgr4 _ _
        have h4 := hO.snoc (x := (x, y)) _ hown4 hgr4
        clear hown4 hgr4 hO
        go_wp2
        go_roundw
        case rel => exact ⟨k + 1, by omega, by go_num, by rw [HT.out]; exact h4⟩
        case measure => simp [intOf]; omega
    · obtain rfl : k = l.length := by omega
      have hp := hO.post
      rw [List.take_length] at hp
      clear hO
      go_wp2
      go_ret
      exact hp

theorem put_length (name text : Str) : ∀ (l : List Txt) (d : Bool), (putGo name text l d).length ≤ l.length + 1
  | [], d => by cases d <;> simp [putGo]
  | x :: r, d => by
    have h1 := put_length name text r true
    have h2 := put_length name text r d
    rw [putGo]
    split
    · rename_i h
      by_cases hx : x.1 = name
      · simp [hx]; omega
      · simp [hx]
        have h3 : (putGo name text r true).length ≤ r.length := by
          clear h1 h2 h hx
          induction r with
          | nil => simp [putGo]
          | cons y r ih =>
            rw [putGo, if_neg (by simp)]
            by_cases hy : y.1 = name <;> simp [hy] <;> omega
        omega
    · by_cases hx : x.1 = name <;> simp [hx] <;> omega

set_option maxHeartbeats 2000000 in
set_option maxRecDepth 100000 in
theorem put_any (v : Value) (l : List Txt) (name text : Str) (w : World) (h : TextsAt w v l) (hl : l.length ≤ 1000) :
    Calls Tryz.prog 37 #[v, .string ⟨name.toArray⟩, .string ⟨text.toArray⟩] w (RowPost w 59 2 (put l name text).length (tcells (put l name text))) := by
  obtain ⟨i0, hi, hz0, hz1, hz2⟩ := info_parts (show (Tryz.prog.info? 59).map (fun i => (i.zero, i.size, i.bytes)) = some (some (.agg #[.string ⟨#[]⟩, .string ⟨#[]⟩]), 2, 32) by kernel_rfl)
  unfold TextsAt at h
  obtain ⟨A, c, rfl⟩ := row_slice h
  go_enter Tryz.func37, Tryz.ntmps37
  go_wp2
  go_loopw [7, 8, 9] (fun v7 v8 v9 wr => ∃ (k : Nat) (acc : List Txt) (d : Bool), k ≤ l.length ∧ v9 = .int .i64 k ∧ v8 = .bool d ∧ OutAt w v7 acc wr ∧ acc.length ≤ k + 1 ∧ put l name text = acc ++ putGo name text (l.drop k) d ∧ (d = false → acc.length ≤ k)) (fun _ _ v9 _ => l.length - (intOf v9).toNat)
  case atStart => exact ⟨0, [], false, Nat.zero_le _, rfl, rfl, ⟨World.ownsRow_nil _ _ _ _, Below.refl _ _⟩, by simp, by simp [put], by simp⟩
  case round =>
    obtain ⟨k, acc, d, hk, rfl, rfl, hO, hal, hput, hal2⟩ := hrel
    by_cases hlt : k < l.length
    · obtain ⟨g, c', hg, -, hgl, -⟩ := row_form h (by omega)
      simp only [Value.slice.injEq, true_and] at hg
      obtain ⟨rfl, -⟩ := hg
      have zw : ∀ j u, (tcells l)[j]? = some u → w.cell? ⟨g, j, none⟩ = some u := by
        intro j u hu
        have hj : j < l.length * 2 := by
          have := h.1
          rw [← this]
          exact (List.getElem?_eq_some_iff.1 hu).1
        rw [h.cellAt _ hj]; exact hu
      have q0 := zw _ _ (tcells_at l k hlt).1
      have q1 := zw _ _ (tcells_at l k hlt).2
      have hd : l.drop k = l[k] :: l.drop (k + 1) := List.drop_eq_getElem_cons hlt
      rw [hd, putGo] at hput
      rcases hxy : l[k] with ⟨x, y⟩
      rw [hxy] at q0 q1 hput
      simp only at q0 q1 hput
      have z0 : wr.cell? ⟨g, k * 2, none⟩ = some (encStr x) := (hO.below.cell (p := ⟨g, _, none⟩) hgl).trans q0
      have z1 : wr.cell? ⟨g, k * 2 + 1, none⟩ = some (encStr y) := (hO.below.cell (p := ⟨g, _, none⟩) hgl).trans q1
      have Q0 := Lib.hid q0
      have Q1 := Lib.hid q1
      clear h hxy hd zw q0 q1
      by_cases hnew : d = false ∧ leS name x = true
      · obtain ⟨rfl, hle⟩ := hnew
        rw [if_pos ⟨rfl, hle⟩] at hput
        have hal3 := hal2 rfl
        clear hal2 hal
        unfold leS at hle
        by_cases he : x = name
        · have hb : (x == name) = true := by simp [he]
          rw [if_pos he, List.nil_append] at hput
          have HP := Lib.hid hput
          clear hput he
          go_wp2_with (at_builtin; refine wpList_append_own_at _ rfl (.tmp 27) (.tmp 31) 38 rfl w.heap.size 59 i0 (.agg #[.string ⟨#[]⟩, .string ⟨#[]⟩]) 2 32 Tryz.underlying38 hi hz0 hz1 hz2 rfl (by decide) _ _ _ rfl (hO.row.alloc _) ⟨wr.heap.size, 0, none⟩ 1 1 [encStr name, encStr text] rfl rfl ?c1 ?c2 ?c3 ?c4 ?c5 ?_)
          case c1 => exact new_cells _ [encStr name, encStr text] 59 _ rfl
          case c2 => intro u hu; simp at hu; rcases hu with rfl | rfl <;> rfl
          case c3 => unfold maxLen; omega
          case c4 => omega
          case c5 => have := hO.below.size; simp; omega
          intro v4 w4 hown4 hgr4 _ _
          have h4 := hO.snoc (x := (name, text)) _ hown4 hgr4
          clear hown4 hgr4
          have y0 : w4.cell? ⟨g, k * 2, none⟩ = some (encStr x) := (h4.below.cell (p := ⟨g, _, none⟩) hgl).trans Q0.out
          clear hO z0 z1
          go_wp2
          go_roundw
          case rel => exact ⟨k + 1, acc ++ [(name, text)], true, by omega, by go_num, rfl, h4, by simp; omega, by rw [HP.out]; simp, by simp⟩
          case measure => simp [intOf]; omega
        · have hb : (x == name) = false := by simp [he]
          rw [if_neg he] at hput
          have HP := Lib.hid hput
          clear hput he
          go_wp2_with (at_builtin; refine wpList_append_own_at _ rfl (.tmp 27) (.tmp 31) 38 rfl w.heap.size 59 i0 (.agg #[.string ⟨#[]⟩, .string ⟨#[]⟩]) 2 32 Tryz.underlying38 hi hz0 hz1 hz2 rfl (by decide) _ _ _ rfl (hO.row.alloc _) ⟨wr.heap.size, 0, none⟩ 1 1 [encStr name, encStr text] rfl rfl ?c1 ?c2 ?c3 ?c4 ?c5 ?_)
          case c1 => exact new_cells _ [encStr name, encStr text] 59 _ rfl
          case c2 => intro u hu; simp at hu; rcases hu with rfl | rfl <;> rfl
          case c3 => unfold maxLen; omega
          case c4 => omega
          case c5 => have := hO.below.size; simp; omega
          intro v4 w4 hown4 hgr4 _ _
          have h4 := hO.snoc (x := (name, text)) _ hown4 hgr4
          clear hown4 hgr4
          have y0 : w4.cell? ⟨g, k * 2, none⟩ = some (encStr x) := (h4.below.cell (p := ⟨g, _, none⟩) hgl).trans Q0.out
          have y1 : w4.cell? ⟨g, k * 2 + 1, none⟩ = some (encStr y) := (h4.below.cell (p := ⟨g, _, none⟩) hgl).trans Q1.out
          clear hO z0 z1
          go_wp2_with (at_builtin; refine wpList_append_own_at _ rfl (.tmp 40) (.tmp 45) 38 rfl w.heap.size 59 i0 (.agg #[.string ⟨#[]⟩, .string ⟨#[]⟩]) 2 32 Tryz.underlying38 hi hz0 hz1 hz2 rfl (by decide) _ _ _ rfl (h4.row.alloc _) ⟨w4.heap.size, 0, none⟩ 1 1 [encStr x, encStr y] rfl rfl ?c1 ?c2 ?c3 ?c4 ?c5 ?_)
          case c1 => exact new_cells _ [encStr x, encStr y] 59 _ rfl
          case c2 => intro u hu; simp at hu; rcases hu with rfl | rfl <;> rfl
          case c3 => unfold maxLen; simp only [List.length_append, List.length_cons, List.length_nil]; omega
          case c4 => simp only [List.length_append, List.length_cons, List.length_nil]; omega
          case c5 => have := h4.below.size; simp; omega
          intro v5 w5 hown5 hgr5 _ _
          have h5 := h4.snoc (x := (x, y)) _ (by rw [List.length_append]; exact hown5) hgr5
          clear hown5 hgr5
          clear h4 y0 y1
          go_wp2
          go_roundw
          case rel => exact ⟨k + 1, acc ++ [(name, text)] ++ [(x, y)], true, by omega, by go_num, rfl, h5, by simp; omega, by rw [HP.out]; simp, by simp⟩
          case measure => simp [intOf]; omega
      · rw [if_neg hnew] at hput
        have hdd : d = true ∨ d = false ∧ leS name x = false := by
          cases d with
          | true => exact .inl rfl
          | false => exact .inr ⟨rfl, by cases hq : leS name x with | true => exact absurd ⟨rfl, hq⟩ hnew | false => rfl⟩
        clear hnew
        by_cases he : x = name
        · have hb : (x == name) = true := by simp [he]
          rw [if_pos he, List.nil_append] at hput
          have HP := Lib.hid hput
          have H2 := Lib.hid hal2
          clear hput he hal2
          rcases hdd with rfl | ⟨rfl, hle⟩
          · clear H2
            go_wp2
            go_roundw
            case rel => exact ⟨k + 1, acc, true, by omega, by go_num, rfl, hO, by omega, HP.out, by simp⟩
            case measure => simp [intOf]; omega
          · obtain rfl := LawfulBEq.eq_of_beq hb
            simp [leS] at hle
        · have hb : (x == name) = false := by simp [he]
          rw [if_neg he] at hput
          have HP := Lib.hid hput
          have H2 := Lib.hid hal2
          clear hput he hal2
          rcases hdd with rfl | ⟨rfl, hle⟩
          · have hacc : acc.length ≤ k + 1 := hal
            go_wp2_with (at_builtin; refine wpList_append_own_at _ rfl (.tmp 40) (.tmp 45) 38 rfl w.heap.size 59 i0 (.agg #[.string ⟨#[]⟩, .string ⟨#[]⟩]) 2 32 Tryz.underlying38 hi hz0 hz1 hz2 rfl (by decide) _ _ _ rfl (hO.row.alloc _) ⟨wr.heap.size, 0, none⟩ 1 1 [encStr x, encStr y] rfl rfl ?c1 ?c2 ?c3 ?c4 ?c5 ?_)
            case c1 => exact new_cells _ [encStr x, encStr y] 59 _ rfl
            case c2 => intro u hu; simp at hu; rcases hu with rfl | rfl <;> rfl
            case c3 => unfold maxLen; omega
            case c4 => omega
            case c5 => have := hO.below.size; simp; omega
            intro v5 w5 hown5 hgr5 _ _
            have h5 := hO.snoc (x := (x, y)) _ hown5 hgr5
            clear hown5 hgr5
            clear hO z0 z1
            go_wp2
            go_roundw
            case rel => exact ⟨k + 1, acc ++ [(x, y)], true, by omega, by go_num, rfl, h5, by simp; omega, by rw [HP.out]; simp, by simp⟩
            case measure => simp [intOf]; omega
          · unfold leS at hle
            have h2 := H2.out rfl
            clear H2
            go_wp2_with (at_builtin; refine wpList_append_own_at _ rfl (.tmp 40) (.tmp 45) 38 rfl w.heap.size 59 i0 (.agg #[.string ⟨#[]⟩, .string ⟨#[]⟩]) 2 32 Tryz.underlying38 hi hz0 hz1 hz2 rfl (by decide) _ _ _ rfl (hO.row.alloc _) ⟨wr.heap.size, 0, none⟩ 1 1 [encStr x, encStr y] rfl rfl ?c1 ?c2 ?c3 ?c4 ?c5 ?_)
            case c1 => exact new_cells _ [encStr x, encStr y] 59 _ rfl
            case c2 => intro u hu; simp at hu; rcases hu with rfl | rfl <;> rfl
            case c3 => unfold maxLen; omega
            case c4 => omega
            case c5 => have := hO.below.size; simp; omega
            intro v5 w5 hown5 hgr5 _ _
            have h5 := hO.snoc (x := (x, y)) _ hown5 hgr5
            clear hown5 hgr5
            clear hO z0 z1
            go_wp2
            go_roundw
            case rel => exact ⟨k + 1, acc ++ [(x, y)], false, by omega, by go_num, rfl, h5, by simp; omega, by rw [HP.out]; simp, by simp; omega⟩
            case measure => simp [intOf]; omega
    · obtain rfl : k = l.length := by omega
      rw [List.drop_length, putGo] at hput
      clear hal2 h
      cases d with
      | true =>
        rw [if_pos rfl, List.append_nil] at hput
        have hp := hO.post
        rw [← hput] at hp
        clear hO hput
        go_wp2
        go_ret
        exact hp
      | false =>
        rw [if_neg (by simp)] at hput
        have HP := Lib.hid hput
        clear hput
        go_wp2_with (at_builtin; refine wpList_append_own_at _ rfl (.tmp 49) (.tmp 53) 38 rfl w.heap.size 59 i0 (.agg #[.string ⟨#[]⟩, .string ⟨#[]⟩]) 2 32 Tryz.underlying38 hi hz0 hz1 hz2 rfl (by decide) _ _ _ rfl (hO.row.alloc _) ⟨wr.heap.size, 0, none⟩ 1 1 [encStr name, encStr text] rfl rfl ?c1 ?c2 ?c3 ?c4 ?c5 ?_)
        case c1 => exact new_cells _ [encStr name, encStr text] 59 _ rfl
        case c2 => intro u hu; simp at hu; rcases hu with rfl | rfl <;> rfl
        case c3 => unfold maxLen; omega
        case c4 => omega
        case c5 => have := hO.below.size; simp; omega
        intro v4 w4 hown4 hgr4 _ _
        have h4 := hO.snoc (x := (name, text)) _ hown4 hgr4
        clear hown4 hgr4
        have hp := h4.post
        rw [← HP.out] at hp
        clear hO h4
        go_wp2
        go_ret
        exact hp
end Go.Proofs.YtokfddlknhijbaaGreatDoor
