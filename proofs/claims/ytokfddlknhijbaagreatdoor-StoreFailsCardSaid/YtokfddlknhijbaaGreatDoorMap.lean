/- The store's map of strings. -/
import Derived.Maps.OwnSet
import Derived.Maps.StringElems
import Derived.Test.YtokfddlknhijbaaGreatDoorPut
import Derived.Test.YtokfddlknhijbaaGreatDoorTake
namespace Go.Proofs.YtokfddlknhijbaaGreatDoor
open Go Go.RowKit Go.Maps

abbrev Tok := Unit
def mcells (L : List Txt) : List (Lit × DataW Tok) := L.map fun x => (Lit.string x.1, .lit (.string x.2))
def menc (L : List Txt) : DataW Tok := .map (mcells L)
/-- Block b is a map that reads as the list L, its keys rising. -/
def MapAt (w : World) (b : Nat) (L : List Txt) : Prop := w.ownsMap Tryz.prog 9 (plainElem Tryz.prog 9) b L.length (menc L)

def look (L : List Txt) (k : Str) : Str := match L.find? (fun x => x.1 == k) with | some x => x.2 | none => []
def hasT (L : List Txt) (k : Str) : Bool := L.any fun x => x.1 == k
def ins (x : Txt) : List Txt → List Txt
  | [] => [x]
  | y :: r => if Op.bytesLess x.1 y.1 then x :: y :: r else y :: ins x r
def mput (L : List Txt) (k t : Str) : List Txt := ins (k, t) (dropT L k)

theorem key9 : Keyed Tryz.prog 9 := string_keyed Tryz.underlying9

theorem MapAt.of {w : World} {b n : Nat} {L : List Txt} (h : w.ownsMap Tryz.prog 9 (plainElem Tryz.prog 9) b n (menc L)) : MapAt w b L := by
  obtain ⟨es, clock, hb, F, hs, hD⟩ := h
  refine ⟨es, clock, hb, F, ?_, hD⟩
  have e1 : (mcells L).length = ((es.toList.map (WideElems.rg Tryz.prog 9 (plainElem Tryz.prog 9))).foldr DataW.insert []).length := congrArg List.length (DataW.map.inj hD)
  rw [length_sorted] at e1
  simp [mcells] at e1
  omega
theorem bytesBefore_eq : ∀ (a b : Str), bytesBefore a b = Op.bytesLess a b
  | [], [] => rfl
  | [], _ :: _ => rfl
  | _ :: _, [] => rfl
  | a :: x, b :: y => by
    have := bytesBefore_eq x y
    simp only [bytesBefore, Op.bytesLess, this]
    first | rfl | skip
theorem mcells_ins (x : Txt) : ∀ L : List Txt, mcells (ins x L) = DataW.insert (Lit.string x.1, .lit (.string x.2)) (mcells L)
  | [] => rfl
  | y :: r => by
    have ih := mcells_ins x r
    unfold ins
    simp only [mcells, List.map_cons, DataW.insert, Lit.before, bytesBefore_eq]
    by_cases h : Op.bytesLess x.1 y.1 = true
    · rw [if_pos h, if_pos h]; rfl
    · rw [if_neg h, if_neg h]
      show _ :: mcells (ins x r) = _
      rw [ih]; rfl
theorem mcells_drop (k : Str) (L : List Txt) : (mcells L).filter (fun p => !p.1.sameKey (.string k)) = mcells (dropT L k) := by
  unfold mcells dropT
  rw [List.filter_map]
  rfl
theorem menc_put (L : List Txt) (k t : Str) : (menc L).put (.string k) (.lit (.string t)) = menc (mput L k t) := by
  unfold menc mput DataW.put
  simp only []
  rw [mcells_drop, mcells_ins]
theorem menc_del (L : List Txt) (k : Str) : (menc L).del (.string k) = menc (dropT L k) := by
  unfold menc DataW.del
  simp only []
  rw [mcells_drop]
theorem menc_at (L : List Txt) (k : Str) : (menc L).atKey (.string k) (.lit (.string [])) = .lit (.string (look L k)) := by
  unfold menc DataW.atKey look mcells
  simp only []
  rw [List.find?_map]
  have e : ((fun p : Lit × DataW Tok => p.1.sameKey (.string k)) ∘ fun x : Txt => (Lit.string x.1, DataW.lit (.string x.2))) = fun x : Txt => x.1 == k := rfl
  rw [e]
  cases L.find? (fun x => x.1 == k) <;> rfl
theorem menc_has (L : List Txt) (k : Str) : Maps.has (menc L) (.string k) = hasT L k := by
  show (mcells L).any (fun p => p.1.sameKey (.string k)) = hasT L k
  unfold hasT mcells
  rw [List.any_map]
  rfl
theorem key_lit {k : Str} (hk : k.length ≤ 1000000) : keyOf Tryz.prog 9 (encStr k) = some (.string k) := by
  have := WideMaps.keyOf_string_mk (P := Tryz.prog) (k := 9) Tryz.underlying9 (by show (⟨k.toArray⟩ : ByteArray).size ≤ maxLen; show k.toArray.size ≤ maxLen; unfold maxLen; simp; omega)
  simpa using this

theorem map_look {w : World} {b : Nat} {L : List Txt} {k : Str} (h : MapAt w b L) (hk : k.length ≤ 1000000) :
    (Instr.lookup 74 (.map (some b)) (.string ⟨k.toArray⟩) false).run Tryz.prog w = .ok (.string ⟨(look L k).toArray⟩) w := by
  obtain ⟨v, ps, hrun, hv⟩ := World.ownsMap.lookup h key9 Tryz.underlying74 (Tryz.zeroValue9 w) (zd := .lit (.string [])) (zp := []) (by exact plainElem_string Tryz.underlying9 (s := ⟨#[]⟩) (by decide)) (key_lit hk)
  rw [menc_at] at hv
  obtain ⟨s, rfl, e, _⟩ := plainElem_string_inv Tryz.underlying9 hv
  have e2 : look L k = s.data.toList ∧ ps = [] := by simpa using e
  rw [show (Value.string ⟨k.toArray⟩) = encStr k from rfl, hrun, e2.1]
theorem map_look_ok {w : World} {b : Nat} {L : List Txt} {k : Str} (h : MapAt w b L) (hk : k.length ≤ 1000000) :
    (Instr.lookup 74 (.map (some b)) (.string ⟨k.toArray⟩) true).run Tryz.prog w = .ok (.tuple #[.string ⟨(look L k).toArray⟩, .bool (hasT L k)]) w := by
  obtain ⟨v, ps, hrun, hv⟩ := World.ownsMap.look_ok h key9 Tryz.underlying74 (Tryz.zeroValue9 w) (zd := .lit (.string [])) (zp := []) (by exact plainElem_string Tryz.underlying9 (s := ⟨#[]⟩) (by decide)) (key_lit hk)
  rw [menc_at] at hv
  rw [menc_has] at hrun
  obtain ⟨s, rfl, e, _⟩ := plainElem_string_inv Tryz.underlying9 hv
  have e2 : look L k = s.data.toList ∧ ps = [] := by simpa using e
  rw [show (Value.string ⟨k.toArray⟩) = encStr k from rfl, hrun, e2.1]
theorem map_len {w : World} {b : Nat} {L : List Txt} (h : MapAt w b L) (ty : TypeId) : (Builtin.len_ #[74] ty #[.map (some b)]).run Tryz.prog w = .ok (.int .i64 L.length) w := by
  have := World.ownsMap.len h Tryz.underlying74 ty
  simpa [menc, Maps.size, mcells] using this
theorem map_drop {w : World} {b : Nat} {L : List Txt} {k : Str} (h : MapAt w b L) (hk : k.length ≤ 1000000) (ty : TypeId) :
    ∃ w', (Builtin.delete_ #[74, 9] ty #[.map (some b), .string ⟨k.toArray⟩]).run Tryz.prog w = .ok (.tuple #[]) w' ∧ MapAt w' b (dropT L k) ∧ w.grownBy w' (some b) := by
  obtain ⟨w', hr, hm, ht⟩ := World.ownsMap.drop h key9 Tryz.underlying74 (key_lit hk) ty
  rw [menc_del] at hm
  exact ⟨w', hr, MapAt.of hm, ht.grown⟩
theorem map_put {w : World} {b : Nat} {L : List Txt} {k t : Str} (h : MapAt w b L) (hL : L.length ≤ 1000000) (hk : k.length ≤ 1000000) (ht : t.length ≤ 1000000) :
    ∃ w', (Instr.mapUpdate 74 (.map (some b)) (.string ⟨k.toArray⟩) (.string ⟨t.toArray⟩)).run Tryz.prog w = .ok () w' ∧ MapAt w' b (mput L k t) ∧ w.grownBy w' (some b) := by
  obtain ⟨w', hr, hm, ht⟩ := World.ownsMap.store h key9 Tryz.underlying74 (by unfold maxLen; omega) (key_lit hk) (val := .string ⟨t.toArray⟩) (plainElem_string Tryz.underlying9 (by show t.toArray.size ≤ maxLen; unfold maxLen; simp; omega))
  rw [show (DataW.lit (H := Tok) (Lit.string (ByteArray.data ⟨t.toArray⟩).toList)) = .lit (.string t) from by simp, menc_put] at hm
  exact ⟨w', hr, MapAt.of hm, ht.grown⟩
theorem map_made (w : World) : MapAt (w.alloc (.map #[] 0)) w.heap.size [] := World.ownsMap_made w _ _ _
theorem MapAt.step {w w' : World} {S S' : Nat → Prop} {b : Nat} {L : List Txt} (h : MapAt w b L) (hs : Step S w S' w') (hb : ¬ S b) : MapAt w' b L := by
  have hl := World.ownsMap.lt h
  obtain ⟨es, clock, he, r⟩ := h
  exact ⟨es, clock, by rw [hs.block b hl hb]; exact he, r⟩
end Go.Proofs.YtokfddlknhijbaaGreatDoor
