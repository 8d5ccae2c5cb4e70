/- More operations out of values: aggregates, addresses, slices, comparisons. -/
import Derived.Test.YtjkpgkmhkgngpaaGreatDoorVaiE
namespace Go.Vai
open Go.RowKit

section
variable {G : Nat} {w0 : Base} {ρ : Ren} {h : Hp} {nx : Nat} {w : World} {P : Program}

/-! ### aggregates -/
def segL (cells : List AV) (off : Nat) (cs : List AV) : List AV := cells.take off ++ (cs ++ cells.drop (Nat.add off cs.length))

theorem foldl_setArr : ∀ (l : List Value) (off n : Nat) (cs : Array Value),
    ((l.zipIdx n).foldl (fun cs (c, j) => cs.setIfInBounds (off + j) c) cs) = setArr l cs (off + n)
  | [], _, _, _ => rfl
  | v :: l, off, n, cs => by
    simp only [List.zipIdx_cons, List.foldl_cons]
    rw [foldl_setArr l off (n + 1)]; rfl

theorem setArr_seg (cells cs : List AV) (off : Nat) (h : off + cs.length ≤ cells.length) :
    setArr (cs.map (toV ρ)) (cells.map (toV ρ)).toArray off = ((segL cells off cs).map (toV ρ)).toArray := by
  apply Array.ext'
  apply List.ext_getElem?
  intro i
  rw [Array.getElem?_toList, setArr_get _ _ _ _ (by simpa using h), List.length_map, List.getElem?_toArray, List.getElem?_map, List.getElem?_map, List.getElem?_map]
  unfold segL
  have hl : (cells.take off).length = off := by rw [List.length_take]; omega
  by_cases h1 : off ≤ i ∧ i < off + cs.length
  · rw [if_pos h1, List.getElem?_append_right (by omega), hl, List.getElem?_append_left (by omega)]
  · rw [if_neg h1]
    by_cases h2 : i < off
    · rw [List.getElem?_append_left (by omega), List.getElem?_take, if_pos h2]
    · rw [List.getElem?_append_right (by omega), hl, List.getElem?_append_right (by omega), List.getElem?_drop]
      show _ = (cells[off + cs.length + (i - off - cs.length)]?).map _
      rw [show off + cs.length + (i - off - cs.length) = i by omega]

/-- parts (offset, size, value) laid into cells -/
def fillA : List (Nat × Nat × AV) → List AV → Option (List AV)
  | [], cells => some cells
  | (off, size, v) :: rest, cells =>
    match and (Nat.beq (cellsA v).length size) (Nat.ble (Nat.add off size) cells.length) with
    | true => fillA rest (segL cells off (cellsA v))
    | false => none

theorem okvs_append {d : Nat → Prop} {a b : List AV} : okvs d (a ++ b) ↔ okvs d a ∧ okvs d b := by
  simp only [okvs_iff, List.mem_append]
  exact ⟨fun h => ⟨fun v hv => h v (.inl hv), fun v hv => h v (.inr hv)⟩, fun h v hv => hv.elim (h.1 v) (h.2 v)⟩
theorem okvs_take {d : Nat → Prop} {a : List AV} (n : Nat) (h : okvs d a) : okvs d (a.take n) :=
  (okvs_iff _ _).2 fun v hv => (okvs_iff _ _).1 h v (List.mem_of_mem_take hv)
theorem okvs_drop {d : Nat → Prop} {a : List AV} (n : Nat) (h : okvs d a) : okvs d (a.drop n) :=
  (okvs_iff _ _).2 fun v hv => (okvs_iff _ _).1 h v (List.mem_of_mem_drop hv)
theorem okvs_seg {d : Nat → Prop} {cells cs : List AV} (off : Nat) (h : okvs d cells) (h' : okvs d cs) : okvs d (segL cells off cs) :=
  okvs_append.2 ⟨okvs_take _ h, okvs_append.2 ⟨h', okvs_drop _ h⟩⟩

theorem segL_length (cells cs : List AV) (off : Nat) (h : off + cs.length ≤ cells.length) : (segL cells off cs).length = cells.length := by
  have : (segL cells off cs).length = min off cells.length + (cs.length + (cells.length - (off + cs.length))) := by simp [segL]
  omega

theorem fillA_sound (place : Nat → Option (Nat × Nat)) : ∀ (ps : List (Nat × AV)) (cells : List AV) (qs : List (Nat × Nat × AV)) (r : List AV),
    (ps.map fun p => (place p.1).map fun q => (q.1, q.2, p.2)) = qs.map some → (∀ p ∈ ps, okv ρ.d p.2) → okvs ρ.d cells → fillA qs cells = some r →
    Instr.fill place (cells.map (toV ρ)).toArray (ps.map fun p => (p.1, toV ρ p.2)) = some (r.map (toV ρ)).toArray ∧ okvs ρ.d r
  | [], cells, qs, r, hq, _, hc, hr => by
    cases qs with
    | nil => simp only [fillA, Option.some.injEq] at hr; subst hr; exact ⟨rfl, hc⟩
    | cons _ _ => simp at hq
  | (i, v) :: ps, cells, qs, r, hq, hp, hc, hr => by
    cases qs with
    | nil => simp at hq
    | cons q qs =>
      obtain ⟨off, size, u⟩ := q
      simp only [List.map_cons, List.cons.injEq] at hq
      obtain ⟨hq1, hq2⟩ := hq
      cases hpl : place i with
      | none => rw [hpl] at hq1; simp at hq1
      | some x =>
        rw [hpl] at hq1
        simp only [Option.map_some, Option.some.injEq, Prod.mk.injEq] at hq1
        obtain ⟨rfl, rfl, rfl⟩ := hq1
        simp only [fillA] at hr
        split at hr
        · rename_i hb
          simp only [Bool.and_eq_true, Nat.beq_eq] at hb
          obtain ⟨hb1, hb2⟩ := hb
          have hb2 : x.1 + x.2 ≤ cells.length := Nat.le_of_ble_eq_true hb2
          have hv := hp (i, v) (List.mem_cons_self ..)
          have hseg := okvs_seg x.1 hc (okvs_cells hv)
          obtain ⟨h1, h2⟩ := fillA_sound place ps _ qs r hq2 (fun p hp' => hp p (List.mem_cons_of_mem _ hp')) hseg hr
          refine ⟨?_, h2⟩
          simp only [List.map_cons, Instr.fill, hpl]
          have hs : (toV ρ v).cells.size = x.2 := by rw [cells_toV']; simpa using hb1
          have hsz : (cells.map (toV ρ)).toArray.size = cells.length := by simp
          rw [hs, hsz]
          have : (x.2 ≠ x.2 || decide (x.1 + x.2 > cells.length)) = false := by simp; omega
          simp only [this]
          have e : Array.foldl (fun cs x_1 => cs.setIfInBounds (x.1 + x_1.2) x_1.1) (cells.map (toV ρ)).toArray (toV ρ v).cells.zipIdx = ((segL cells x.1 (cellsA v)).map (toV ρ)).toArray := by
            rw [← setArr_seg cells (cellsA v) x.1 (by omega), cells_toV']
            have := foldl_setArr ((cellsA v).map (toV ρ)) x.1 0 (cells.map (toV ρ)).toArray
            rw [Nat.add_zero] at this
            rw [← this, ← Array.foldl_toList]
            simp
          simp only [Bool.false_eq_true, if_false]
          rw [e]
          exact h1
        · simp at hr

end
end Go.Vai
