/- The first heap: tables that the row lays. -/
import Derived.Test.YtjkpgkmhkgngpaaGreatDoorVaiWh
import Derived.Lib.LaidU8
import Derived.LaidSub
namespace Go.Vai
open Go.RowKit

/-- what a first heap says of a world: of its blocks below 'G' alone -/
def StartOK (G : Nat) (w : World) (h : Hp) : Prop := (∀ b o, b < G → h.get b = some o → b + 4 < G ∧ ∃ x, w.heap[b]? = some x ∧ ∀ (ρ : Ren) (ex : Nat), ORel ρ ex o x) ∧ ∀ b, G ≤ b → b < keyMax → h.get b = none
theorem StartOK.leaf (G : Nat) (w : World) : StartOK G w .leaf := ⟨fun b o _ h => by rw [get_leaf] at h; simp at h, fun b _ _ => get_leaf b⟩

/-- a table of integers -/
noncomputable def tabObj (k : IntKind) (zs : List Int) (ty : TypeId) : AObj := .cells (mkT (zs.map fun z => AV.int k z)) zs.length ty .none 0

theorem tabObj_rel {k : IntKind} {zs : List Int} {ty : TypeId} (hz : zs.length ≤ 1000000) (ρ : Ren) (ex : Nat) : ORel ρ ex (tabObj k zs ty) (.cells (zs.map fun z => Value.int k z).toArray ty (0, 0)) := by
  refine ⟨_, _, rfl, by simp, by unfold keyMax; omega, rfl, fun i hi v hv => ?_⟩
  rw [mkT_get _ _ (by simp; unfold keyMax; omega) (by unfold keyMax; omega)] at hv
  simp only [List.getElem?_map, Option.map_eq_some_iff] at hv
  obtain ⟨z, h1, rfl⟩ := hv
  exact ⟨⟨⟩, by simp [h1, toV]⟩

theorem StartOK.set {G : Nat} {w : World} {h : Hp} {g : Nat} {o : AObj} {x : Obj} (H : StartOK G w h) (hG : G < keyMax) (hg' : g + 4 < G) (hx : w.heap[g]? = some x) (ho : ∀ (ρ : Ren) (ex : Nat), ORel ρ ex o x) :
    StartOK G w (h.set g o) := by
  have hg : g < G := by omega
  refine ⟨fun b o' hb hget => ?_, fun b hb hm => by rw [get_set_other h o (Nat.lt_trans hg hG) hm (by omega)]; exact H.2 b hb hm⟩
  by_cases e : b = g
  · subst e
    rw [get_set_same] at hget
    cases hget
    exact ⟨hg', x, hx, ho⟩
  · rw [get_set_other h o (Nat.lt_trans hg hG) (Nat.lt_trans hb hG) (Ne.symm e)] at hget
    exact H.1 b o' hb hget

theorem HRel.startAt {G : Nat} {w : World} {h : Hp} (s : Nat → Int) (hG : G < keyMax) (hw : G ≤ w.heap.size + 4) (H : StartOK G w h) : HRel G (Base.all w) (ren0 G s) h G w where
  below := Keeps.refl (Base.all w)
  lt _ h := by have h : _ + 4 < G := h; omega
  lim := Nat.le_of_lt hG
  gl := Nat.le_refl _
  obj b o hb ho _ := by
    obtain ⟨_, x, hx, r⟩ := H.1 b o hb ho
    exact ⟨x, hx, r _ _⟩
  own b o hb _ _ hge := absurd hb (Nat.not_lt.2 hge)
  inj b b' o o' _ _ _ _ _ _ e := e
  glob g h := ⟨h, rfl⟩
  arg g _ h2 h3 := by have h3 : g + 4 < G := h3; omega
  in_ b h := by have h : b + 4 < G := h; show b < _; omega
  top := H.2

def elemT (P : Program) (t : TypeId) : TypeId := match P.underlying t with
  | some (.array _ e) => e
  | _ => 0

theorem tab_heap {P : Program} {W : World} {name : String} {k : IntKind} {zs : List Int} {l : List (String × DataW Unit)} {g : Nat} {t e : TypeId} {n : Nat} (keep : String × DataW Unit → Bool)
    (hk : l.filter keep = [(name, Lib.tabData k zs)]) (hg : P.globalNamed name = some g) (hty : (P.globals[g]?).map (·.type) = some t) (ht : P.underlying t = some (.array n e)) (he : P.underlying e = some (.int k))
    (hce : P.cellsOf e = 1) (hct : P.cellsOf t = n) (hz : 0 < zs.length) (h : laidMet P l W) : ∃ ty, W.heap[g]? = some (.cells (zs.map fun z => Value.int k z).toArray ty (0, 0)) := by
  have h1 := laidMet.filter keep h
  rw [hk] at h1
  have hT := Lib.tabIs_of_head hg hty ht he hce hct h1
  obtain ⟨ps, ⟨g', t', cs, fuel, p, q, hg', _, hvar, _, _, rfl⟩, _, hc⟩ := h1
  obtain rfl := Option.some.inj (hg.symm.trans hg')
  have e1 : cs = (zs.map fun z => Value.int k z).toArray := by
    have : W.var? P name = some (zs.map fun z => Value.int k z).toArray := hT
    rw [hvar] at this
    exact Option.some.inj this
  have hin : MemPlace.cell g 0 ∈ MemPlace.row ⟨g, 0, none⟩ cs.size ++ p ++ q := by
    refine List.mem_append_left _ (List.mem_append_left _ ?_)
    unfold MemPlace.row
    exact List.mem_map.2 ⟨0, List.mem_range.2 (by rw [e1]; simpa using hz), by simp⟩
  obtain ⟨c, ty, hheap⟩ := (hc g 0 hin).1
  refine ⟨ty, ?_⟩
  have : W.var? P name = some c := by simp [World.var?, hg, hheap]
  rw [hvar] at this
  rw [hheap, ← e1, Option.some.inj this]
/-! ### a table of structs of integers -/
def rowsData (k : IntKind) (ps : List (List Int)) : DataW Unit := .agg (ps.map fun zs => .agg (zs.map fun z => .lit (.int k z)))
theorem flat_get {α : Type} {m : Nat} (hm : 0 < m) : ∀ (ps : List (List α)), (∀ p, p ∈ ps → p.length = m) → ∀ i, ps.flatten[i]? = (ps[i / m]?).bind fun p => p[i % m]?
  | [], _, i => by simp
  | p :: ps, h, i => by
    have hp := h p (by simp)
    by_cases hi : i < m
    · rw [List.flatten_cons, List.getElem?_append_left (by omega), Nat.div_eq_of_lt hi, Nat.mod_eq_of_lt hi]; simp
    · rw [List.flatten_cons, List.getElem?_append_right (by omega), flat_get hm ps (fun q hq => h q (by simp [hq])), hp]
      have e1 : i / m = (i - m) / m + 1 := by
        rw [Nat.div_eq_sub_div hm (by omega)]
      have e2 : i % m = (i - m) % m := Nat.mod_eq_sub_mod (by omega)
      rw [e1, e2]; simp
theorem cells_of_rows {P : Program} {w : World} {base : Nat} {sp : Nat → Bool} {held : Bool} {fuel : Nat} {t e : TypeId} {fs : Array Field} {n m : Nat} {k : IntKind} {cs : List Value} {ps : List (List Int)} {p : List MemPlace}
    (ht : P.underlying t = some (.array n e)) (he : P.underlying e = some (.struct fs))
    (hf : ∀ (i : Nat) (f : Field), fs[i]? = some f → P.underlying f.type = some (.int k) ∧ f.offset = i ∧ P.cellsOf f.type = 1) (hm : fs.size = m) (h0 : 0 < m) (hce : P.cellsOf e = m) (hct : P.cellsOf t = n * m)
    (hps : ∀ q, q ∈ ps → q.length = m) (h : DataW.trod (fun _ => ()) P w base sp held fuel t cs = some (rowsData k ps, p)) : cs = ps.flatten.map fun z => Value.int k z := by
  have hlen : cs.length = n * m := by
    cases fuel with
    | zero => simp [DataW.trod] at h
    | succ fuel =>
      simp only [DataW.trod, ht, hce, hct] at h
      split at h
      · rename_i hl; omega
      · cases h
  have hel : ∀ i, i < n → ∃ q, ps[i]? = some q ∧ (cs.drop (i * m)).take m = q.map fun z => Value.int k z := by
    intro i hi
    obtain ⟨fuel', d, r, h1, h2⟩ := Lib.array_elem ht h i hi
    simp only [List.getElem?_map, Option.map_eq_some_iff] at h1
    obtain ⟨q, hq, rfl⟩ := h1
    rw [hce] at h2
    exact ⟨q, hq, Lib.ints_of_struct he hf (by rw [hce, hm]) h2⟩
  have hpl : ps.length = n := by
    cases fuel with
    | zero => simp [DataW.trod] at h
    | succ fuel =>
      simp only [DataW.trod, ht, hce, hct] at h
      split at h
      · obtain ⟨xs, hmm, hx⟩ := Option.map_eq_some_iff.1 h
        have h1 : DataW.agg (xs.map (·.1)) = rowsData k ps := congrArg Prod.fst hx
        have h1 := congrArg List.length (DataW.agg.inj h1)
        have h2 := Lib.mapM_length hmm
        simp at h1 h2
        omega
      · rename_i hc
        exact absurd hlen hc
  apply List.ext_getElem?
  intro i
  rw [List.getElem?_map, flat_get h0 ps hps]
  by_cases hi : i < n * m
  · have hd : i / m < n := (Nat.div_lt_iff_lt_mul h0).2 hi
    obtain ⟨q, hq, hc⟩ := hel (i / m) hd
    have hr : i % m < m := Nat.mod_lt _ h0
    have h1 := congrArg (·[i % m]?) hc
    simp only [List.getElem?_map, List.getElem?_take, List.getElem?_drop, if_pos hr] at h1
    rw [show i / m * m + i % m = i by rw [Nat.mul_comm]; exact Nat.div_add_mod i m] at h1
    rw [h1, hq]; rfl
  · have hd : ps.length ≤ i / m := by
      rw [hpl]
      exact (Nat.le_div_iff_mul_le h0).2 (by omega)
    rw [List.getElem?_eq_none (by omega), List.getElem?_eq_none hd]; rfl

theorem rows_heap {P : Program} {W : World} {name : String} {k : IntKind} {ps : List (List Int)} {l : List (String × DataW Unit)} {g : Nat} {t e : TypeId} {n m : Nat} {fs : Array Field} (keep : String × DataW Unit → Bool)
    (hk : l.filter keep = [(name, rowsData k ps)]) (hg : P.globalNamed name = some g) (hty : (P.globals[g]?).map (·.type) = some t) (ht : P.underlying t = some (.array n e)) (he : P.underlying e = some (.struct fs))
    (hf : ∀ (i : Nat) (f : Field), fs[i]? = some f → P.underlying f.type = some (.int k) ∧ f.offset = i ∧ P.cellsOf f.type = 1) (hm : fs.size = m) (h0 : 0 < m) (hce : P.cellsOf e = m) (hct : P.cellsOf t = n * m)
    (hps : ∀ q, q ∈ ps → q.length = m) (hz : 0 < ps.flatten.length) (h : laidMet P l W) : ∃ ty, W.heap[g]? = some (.cells (ps.flatten.map fun z => Value.int k z).toArray ty (0, 0)) := by
  have h1 := laidMet.filter keep h
  rw [hk] at h1
  obtain ⟨qs, ⟨g', t', cs, fuel, p, q, hg', ht', hvar, hd, _, rfl⟩, _, hc⟩ := h1
  obtain rfl := Option.some.inj (hg.symm.trans hg')
  obtain rfl := Option.some.inj (hty.symm.trans ht')
  have e0 := cells_of_rows ht he hf hm h0 hce hct hps hd
  have e1 : cs = (ps.flatten.map fun z => Value.int k z).toArray := by
    apply Array.ext'; rw [e0]
  have hin : MemPlace.cell g 0 ∈ MemPlace.row ⟨g, 0, none⟩ cs.size ++ p ++ q := by
    refine List.mem_append_left _ (List.mem_append_left _ ?_)
    unfold MemPlace.row
    exact List.mem_map.2 ⟨0, List.mem_range.2 (by rw [e1, List.size_toArray, List.length_map]; exact hz), rfl⟩
  obtain ⟨c, ty, hheap⟩ := (hc g 0 hin).1
  refine ⟨ty, ?_⟩
  have : W.var? P name = some c := by simp [World.var?, hg, hheap]
  rw [hvar] at this
  rw [hheap, ← e1, Option.some.inj this]
def structT (P : Program) (e : TypeId) : Array Field := match P.underlying e with
  | some (.struct fs) => fs
  | _ => #[]
def fieldsB (P : Program) (k : IntKind) : List Field → Nat → Bool
  | [], _ => true
  | f :: l, i => and (match P.underlying f.type with
    | some (.int k') => decide (k' = k)
    | _ => false) (and (Nat.beq f.offset i) (and (Nat.beq (P.cellsOf f.type) 1) (fieldsB P k l (Nat.succ i))))
theorem fieldsB_spec {P : Program} {k : IntKind} : ∀ {l : List Field} {j : Nat}, fieldsB P k l j = true → ∀ (i : Nat) (f : Field), l[i]? = some f → P.underlying f.type = some (.int k) ∧ f.offset = j + i ∧ P.cellsOf f.type = 1
  | [], _, _, i, f, hf => by simp at hf
  | g :: l, j, h, i, f, hf => by
    simp only [fieldsB, Bool.and_eq_true, Nat.beq_eq] at h
    obtain ⟨h1, h2, h3, h4⟩ := h
    cases i with
    | zero =>
      simp only [List.getElem?_cons_zero, Option.some.injEq] at hf; subst hf
      refine ⟨?_, h2, h3⟩
      split at h1
      · rename_i k' e
        rw [e, of_decide_eq_true h1]
      · simp at h1
    | succ i =>
      obtain ⟨a, b, c⟩ := fieldsB_spec h4 i f (by simpa using hf)
      exact ⟨a, by omega, c⟩
theorem rows_heapB {P : Program} {W : World} {name : String} {k : IntKind} {ps : List (List Int)} {l : List (String × DataW Unit)} {g : Nat} {t e : TypeId} {n m : Nat} (keep : String × DataW Unit → Bool)
    (hk : l.filter keep = [(name, rowsData k ps)]) (hg : P.globalNamed name = some g) (hty : (P.globals[g]?).map (·.type) = some t) (ht : P.underlying t = some (.array n e)) (he : P.underlying e = some (.struct (structT P e)))
    (hf : fieldsB P k (structT P e).toList 0 = true) (hm : (structT P e).size = m) (h0 : 0 < m) (hce : P.cellsOf e = m) (hct : P.cellsOf t = n * m)
    (hps : ∀ q, q ∈ ps → q.length = m) (hz : 0 < ps.flatten.length) (h : laidMet P l W) : ∃ ty, W.heap[g]? = some (.cells (ps.flatten.map fun z => Value.int k z).toArray ty (0, 0)) :=
  rows_heap keep hk hg hty ht he (fun i f h => by
    have := fieldsB_spec hf i f (by rw [Array.getElem?_toList]; exact h)
    rwa [Nat.zero_add] at this) hm h0 hce hct hps hz h
end Go.Vai
