/- The first heap: tables that the row lays. -/
import Derived.Test.YtfnnfpkbllgeiaaGreatDoorVaiWh
import Derived.Lib.LaidTab
import Derived.LaidSub
namespace Go.Vai
open Go.RowKit

def StartOK (G : Nat) (w : World) (h : Hp) : Prop := ∀ b o, b < G → h.get b = some o → ∃ x, w.heap[b]? = some x ∧ ∀ ρ : Ren, ORel ρ 0 o x
theorem StartOK.leaf (G : Nat) (w : World) : StartOK G w .leaf := fun b o _ h => by rw [get_leaf] at h; simp at h

/-- a table of integers -/
noncomputable def tabObj (k : IntKind) (zs : List Int) (ty : TypeId) : AObj := .cells (mkT (zs.map fun z => AV.int k z)) zs.length ty .none 0

theorem tabObj_rel {k : IntKind} {zs : List Int} {ty : TypeId} (hz : zs.length ≤ 1000000) (ρ : Ren) : ORel ρ 0 (tabObj k zs ty) (.cells (zs.map fun z => Value.int k z).toArray ty (0, 0)) := by
  refine ⟨_, _, rfl, by simp, by unfold keyMax; omega, rfl, fun i hi v hv => ?_⟩
  rw [mkT_get _ _ (by simp; unfold keyMax; omega) (by unfold keyMax; omega)] at hv
  simp only [List.getElem?_map, Option.map_eq_some_iff] at hv
  obtain ⟨z, h1, rfl⟩ := hv
  exact ⟨⟨⟩, by simp [h1, toV]⟩

theorem StartOK.set {G : Nat} {w : World} {h : Hp} {g : Nat} {o : AObj} {x : Obj} (H : StartOK G w h) (hG : G < keyMax) (hg : g < G) (hx : w.heap[g]? = some x) (ho : ∀ ρ : Ren, ORel ρ 0 o x) :
    StartOK G w (h.set g o) := by
  intro b o' hb hget
  by_cases e : b = g
  · subst e
    rw [get_set_same] at hget
    cases hget
    exact ⟨x, hx, ho⟩
  · rw [get_set_other h o (Nat.lt_trans hg hG) (Nat.lt_trans hb hG) (Ne.symm e)] at hget
    exact H b o' hb hget

theorem HRel.startAt {G : Nat} {w : World} {h : Hp} (hG : G < keyMax) (hw : G ≤ w.heap.size) (H : StartOK G w h) : HRel G w (ren0 G) h G w where
  below := Below.refl _ w
  lt _ h := h
  lim := Nat.le_of_lt hG
  gl := Nat.le_refl _
  obj b o hb ho _ := by
    obtain ⟨x, hx, r⟩ := H b o hb ho
    exact ⟨x, hx, r _⟩
  own b o hb _ _ hge := absurd hb (Nat.not_lt.2 hge)
  inj b b' o o' _ _ _ _ _ _ e := e
  glob g h := ⟨h, rfl⟩
  in_ b h := Nat.lt_of_lt_of_le h hw

theorem vaiAt {P : Program} (G F d : Nat) {f : FuncId} {h : Hp} (hm : P.follows .mixedOrders = true) (hG : Nat.blt G 16777216 = true)
    (hrun : selfN P G F d f [] h G (fun v _ _ => yes v) = .ok) (w : World) (hw : G ≤ w.heap.size) (hS : StartOK G w h) :
    Calls P f #[] w fun e w' => e = .returned (.bool true) ∧ Below w.heap.size w w' := by
  have H : HRel G w (ren0 G) h G w := HRel.startAt (by unfold keyMax; simpa using hG) hw hS
  refine (selfN_ok (w0 := w) hm d f [] h G _ (ren0 G) w hrun H trivial).mono ?_
  rintro e w' ⟨ρ', v, h', n', rfl, _, H', _, hk⟩
  refine ⟨?_, H'.below⟩
  simp only [yes] at hk
  split at hk
  · simp [toV]
  · simp at hk

def elemT (P : Program) (t : TypeId) : TypeId := match P.underlying t with
  | some (.array _ e) => e
  | _ => 0

theorem tab_heap {P : Program} {W : World} {name : String} {k : IntKind} {zs : List Int} {l : List (String × DataW Unit)} {g : Nat} {t e : TypeId} {n : Nat} (keep : String × DataW Unit → Bool)
    (hk : l.filter keep = [(name, Lib.tabData k zs)]) (hg : P.globalNamed name = some g) (hty : (P.globals[g]?).map (·.type) = some t) (ht : P.underlying t = some (.array n e)) (he : P.underlying e = some (.int k))
    (hce : P.cellsOf e = 1) (hct : P.cellsOf t = n) (hz : 0 < zs.length) (h : laidMet P l W) : ∃ ty, W.heap[g]? = some (.cells (zs.map fun z => Value.int k z).toArray ty (0, 0)) := by
  have h1 := laidMet.filter keep h
  rw [hk] at h1
  have hT := Lib.tabIs_of_head hg hty ht he hce hct h1
  obtain ⟨ps, ⟨g', t', cs, fuel, p, q, hg', _, hvar, _, _, rfl⟩, _, hc⟩ := h1
  obtain rfl := Option.some.inj (hg.symm.trans hg')
  have e1 : cs = (zs.map fun z => Value.int k z).toArray := by
    have : W.var? P name = some (zs.map fun z => Value.int k z).toArray := hT
    rw [hvar] at this
    exact Option.some.inj this
  have hin : MemPlace.cell g 0 ∈ MemPlace.row ⟨g, 0, none⟩ cs.size ++ p ++ q := by
    refine List.mem_append_left _ (List.mem_append_left _ ?_)
    unfold MemPlace.row
    exact List.mem_map.2 ⟨0, List.mem_range.2 (by rw [e1]; simpa using hz), by simp [Addr.add]⟩
  obtain ⟨c, ty, hheap⟩ := (hc g 0 hin).1
  refine ⟨ty, ?_⟩
  have : W.var? P name = some c := by simp [World.var?, hg, hheap]
  rw [hvar] at this
  rw [hheap, ← e1, Option.some.inj this]
end Go.Vai
