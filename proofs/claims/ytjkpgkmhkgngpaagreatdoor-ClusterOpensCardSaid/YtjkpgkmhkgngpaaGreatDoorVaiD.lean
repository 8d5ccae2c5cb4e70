/- Cells read and written: the evaluator's heap and the model's memory. -/
import Derived.Test.YtjkpgkmhkgngpaaGreatDoorVaiCx
import Derived.Laws.CopyRow
namespace Go.Vai
open Go.RowKit

def cellsA : AV → List AV
  | .agg cs => cs
  | v => [v]
theorem notAgg_cells (v : Value) : (notAgg v).cells.toList = [notAgg v] := by cases v <;> simp [notAgg, Value.cells]

theorem cells_toV (ρ : Ren) (v : AV) : (toV ρ v).cells.toList = (cellsA v).map (toV ρ) := by
  cases v <;> first | (simp only [toV, cellsA, notAgg_cells, List.map_cons, List.map_nil]; done) | simp [toV, Value.cells, cellsA, toVs_map]
theorem cells_toV' (ρ : Ren) (v : AV) : (toV ρ v).cells = ((cellsA v).map (toV ρ)).toArray := by
  rw [← cells_toV, Array.toArray_toList]
theorem okvs_cells {d : Nat → Prop} {v : AV} (h : okv d v) : okvs d (cellsA v) := by
  cases v <;> first | exact h | exact ⟨h, trivial⟩
theorem one_toV (ρ : Ren) {v : AV} (h : oneA v = true) : (toV ρ v).oneCell' = true := by
  cases v <;> simp_all [oneA, toV, Value.oneCell']

theorem add_off (g o j : Nat) : (⟨g, o, none⟩ : Addr).add j = ⟨g, o + j, none⟩ := by
  unfold Addr.add; split <;> simp_all

/-! ### reading -/
noncomputable def gather (c : Trie AV) (k : Nat) : Nat → Option (List AV) :=
  @Nat.rec (fun _ => Nat → Option (List AV)) (fun _ => some [])
    (fun _ ih o => @Option.rec AV (fun _ => Option (List AV)) none (fun v => @Option.rec (List AV) (fun _ => Option (List AV)) none (fun l => some (v :: l)) (ih (Nat.succ o))) (c.get o)) k

theorem gather_succ (c : Trie AV) (k o : Nat) : gather c (k + 1) o = (c.get o).bind fun v => (gather c k (o + 1)).bind fun l => some (v :: l) := by
  show @Option.rec AV _ _ _ (c.get o) = _
  cases c.get o with
  | none => rfl
  | some v =>
    show @Option.rec (List AV) _ _ _ (gather c k (o + 1)) = _
    cases gather c k (o + 1) <;> rfl

theorem gather_spec (c : Trie AV) : ∀ (k o : Nat) (l : List AV), gather c k o = some l → l.length = k ∧ ∀ j v, l[j]? = some v → c.get (o + j) = some v ∧ j < k
  | 0, o, l, h => by
    have : l = [] := by
      have h : some [] = some l := h
      simpa using h.symm
    subst this; simp
  | k + 1, o, l, h => by
    rw [gather_succ] at h
    cases hg : c.get o with
    | none => rw [hg] at h; simp at h
    | some v =>
      rw [hg] at h
      cases hr : gather c k (o + 1) with
      | none => rw [hr] at h; simp at h
      | some r =>
        rw [hr] at h
        simp only [Option.bind_some, Option.some.injEq] at h
        subst h
        obtain ⟨h1, h2⟩ := gather_spec c k (o + 1) r hr
        refine ⟨by simp [h1], fun j u hj => ?_⟩
        cases j with
        | zero => simp at hj; subst hj; exact ⟨hg, by omega⟩
        | succ j =>
          obtain ⟨p, q⟩ := h2 j u (by simpa using hj)
          exact ⟨by rw [show o + (j + 1) = o + 1 + j by omega]; exact p, by omega⟩

noncomputable def rdCells (h : Hp) (b o k : Nat) : Option (List AV) :=
  match h.get b with
  | some (.cells c n _ _ _) => match Nat.ble (Nat.add o k) n with
    | true => gather c k o
    | false => none
  | _ => none

section
variable {G : Nat} {w0 : Base} {ρ : Ren} {h : Hp} {nx : Nat} {w : World} {P : Program}

theorem HRel.cells (H : HRel G w0 ρ h nx w) {b n ty : Nat} {c : Trie AV} {fz : Fz} {opn : Nat} (hd : ρ.d b) (hg : h.get b = some (.cells c n ty fz opn)) :
    ∃ cs fr, w.heap[ρ.m b]? = some (.cells cs ty fr) ∧ cs.size = n + ρ.e b * opn ∧ n ≤ keyMax ∧ FzRel fz fr cs.size ∧
      ∀ i, i < n → ∀ v, c.get i = some v → okv ρ.d v ∧ cs[i]? = some (toV ρ v) := by
  obtain ⟨x, hx, cs, fr, rfl, r⟩ := H.obj b _ (H.lt b hd) hg hd
  exact ⟨cs, fr, hx, r⟩

theorem rd_sound (H : HRel G w0 ρ h nx w) {b o k : Nat} {l : List AV} (hd : ρ.d b) (hr : rdCells h b o k = some l) :
    okvs ρ.d l ∧ l.length = k ∧ ∀ j v, (l.map (toV ρ))[j]? = some v → w.cell? ((⟨ρ.m b, o, none⟩ : Addr).add j) = some v := by
  unfold rdCells at hr
  split at hr
  · rename_i c n ty fz opn hg
    split at hr
    · rename_i hb
      have hb : o + k ≤ n := Nat.le_of_ble_eq_true hb
      obtain ⟨cs, fr, hx, h1, _, h3, h4⟩ := H.cells hd hg
      obtain ⟨hl, hs⟩ := gather_spec c k o l hr
      refine ⟨(okvs_iff _ _).2 fun v hv => ?_, hl, fun j v hj => ?_⟩
      · obtain ⟨j, hj, rfl⟩ := List.getElem_of_mem hv
        obtain ⟨p, q⟩ := hs j l[j] (by simp)
        exact (h4 (o + j) (by omega) _ p).1
      · rw [List.getElem?_map] at hj
        cases hlj : l[j]? with
        | none => rw [hlj] at hj; simp at hj
        | some u =>
          rw [hlj] at hj
          simp only [Option.map_some, Option.some.injEq] at hj
          subst hj
          obtain ⟨p, q⟩ := hs j u hlj
          rw [add_off, cell_of_row w _ _ cs ty fr hx]
          exact (h4 (o + j) (by omega) u p).2
    · simp at hr
  · simp at hr

theorem run_rd (H : HRel G w0 ρ h nx w) {b o k : Nat} {l : List AV} (hd : ρ.d b) (hr : rdCells h b o k = some l) :
    (loadCells ⟨ρ.m b, o, none⟩ k).run P w = .ok (l.map (toV ρ)).toArray w := by
  obtain ⟨_, hl, hc⟩ := rd_sound H hd hr
  have := run_loadCells_list (P := P) (w := w) ⟨ρ.m b, o, none⟩ (l.map (toV ρ)) hc
  rw [List.length_map, hl] at this
  exact this

/-! ### writing -/
noncomputable def setMany (l : List AV) : Trie AV → Nat → Trie AV :=
  @List.rec AV (fun _ => Trie AV → Nat → Trie AV) (fun c _ => c) (fun v _ ih c o => ih (c.set o v) (Nat.succ o)) l

theorem setMany_get : ∀ (l : List AV) (c : Trie AV) (o i : Nat), o + l.length ≤ keyMax → i < keyMax →
    (setMany l c o).get i = if o ≤ i ∧ i < o + l.length then l[i - o]? else c.get i
  | [], c, o, i, _, _ => by
    show c.get i = _
    rw [if_neg (by simp only [List.length_nil]; omega)]
  | v :: l, c, o, i, ho, hi => by
    show (setMany l (c.set o v) (o + 1)).get i = _
    rw [List.length_cons] at ho
    rw [setMany_get l _ (o + 1) i (by omega) hi, List.length_cons]
    by_cases h1 : o + 1 ≤ i ∧ i < o + 1 + l.length
    · rw [if_pos h1, if_pos (by omega), show i - o = (i - (o + 1)) + 1 by omega]
      rfl
    · rw [if_neg h1]
      by_cases h2 : i = o
      · subst h2
        rw [if_pos (by constructor <;> simp), get_set_same, Nat.sub_self]; rfl
      · rw [if_neg (by omega), get_set_other _ _ (by omega) hi (by omega)]

def setArr : List Value → Array Value → Nat → Array Value
  | [], cs, _ => cs
  | v :: l, cs, p => setArr l (cs.setIfInBounds p v) (p + 1)
theorem setArr_size : ∀ (l : List Value) (cs : Array Value) (p : Nat), (setArr l cs p).size = cs.size
  | [], _, _ => rfl
  | v :: l, cs, p => by rw [setArr, setArr_size l]; simp
theorem setArr_get : ∀ (l : List Value) (cs : Array Value) (p i : Nat), p + l.length ≤ cs.size →
    (setArr l cs p)[i]? = if p ≤ i ∧ i < p + l.length then l[i - p]? else cs[i]?
  | [], cs, p, i, _ => by rw [setArr, if_neg (by simp only [List.length_nil]; omega)]
  | v :: l, cs, p, i, hp => by
    rw [List.length_cons] at hp
    rw [setArr, setArr_get l _ (p + 1) i (by simp; omega), List.length_cons]
    by_cases h1 : p + 1 ≤ i ∧ i < p + 1 + l.length
    · rw [if_pos h1, if_pos (by omega), show i - p = (i - (p + 1)) + 1 by omega]; rfl
    · rw [if_neg h1]
      by_cases h2 : i = p
      · subst h2
        rw [if_pos (by constructor <;> simp), Array.getElem?_setIfInBounds_self_of_lt (by omega), Nat.sub_self]; rfl
      · rw [if_neg (by omega), Array.getElem?_setIfInBounds_ne (by omega)]

theorem run_storeCells_gen (g o : Nat) (ty : TypeId) (fr : Nat × Nat) : ∀ (vs : List Value) (i : Nat) (cs : Array Value) (w : World),
    w.heap[g]? = some (.cells cs ty fr) → o + i + vs.length ≤ cs.size → (∀ v ∈ vs, v.oneCell' = true) →
    (∀ j, o + i ≤ j → j < o + i + vs.length → ¬ (fr.1 ≤ j ∧ j < fr.2)) →
    ∃ w', (storeCells ⟨g, o, none⟩ vs i).run P w = .ok () w' ∧ UpdAt w w' g (.cells (setArr vs cs (o + i)) ty fr)
  | [], i, cs, w, hg, _, _, _ => ⟨w, rfl, ⟨rfl, rfl, rfl, rfl, hg, fun _ _ => rfl⟩⟩
  | v :: vs, i, cs, w, hg, hs, h1, hf => by
    rw [List.length_cons] at hs hf
    have hlt : o + i < cs.size := by omega
    have hcell : w.cell? ⟨g, o + i, none⟩ = some cs[o + i] := by
      rw [cell_of_row w g (o + i) cs ty fr hg]; simp [hlt]
    have hfz : w.frozen? ⟨g, o + i, none⟩ = false := by
      have := hf (o + i) (Nat.le_refl _) (by omega)
      obtain ⟨lo, hi⟩ := fr
      simp only [World.frozen?, hg]
      by_cases a : lo ≤ o + i
      · simp only [a, decide_true, Bool.true_and, decide_eq_false_iff_not]
        intro b; exact this ⟨a, b⟩
      · simp [a]
    have hg' : (w.setCell ⟨g, o + i, none⟩ v).heap[g]? = some (.cells (cs.setIfInBounds (o + i) v) ty fr) := by
      simp [World.setCell, Array.getElem?_modify, hg]
    obtain ⟨w', hr, hu⟩ := run_storeCells_gen g o ty fr vs (i + 1) (cs.setIfInBounds (o + i) v) (w.setCell ⟨g, o + i, none⟩ v) hg'
      (by simp; omega) (fun u hu => h1 u (List.mem_cons_of_mem _ hu)) (fun j a b => hf j (by omega) (by omega))
    refine ⟨w', ?_, ⟨hu.os, hu.tape, hu.output, by rw [hu.size]; simp, ?_, fun k hk => ?_⟩⟩
    · simp only [storeCells, Sem.run_bind, add_off]
      rw [run_store P w _ v .plain (h1 v (List.mem_cons_self ..)), hcell]
      simp only [hfz, Bool.false_eq_true, if_false, Result.andThen_ok]
      exact hr
    · rw [hu.at_]; rfl
    · rw [hu.other k hk]
      exact Below.heap_setCell w _ v k hk

def Fz.clear : Fz → Nat → Nat → Bool
  | .range lo hi, o, k => or (Nat.ble hi o) (Nat.ble (Nat.add o k) lo)
  | _, _, _ => true
theorem Fz.clear_spec {fz : Fz} {fr : Nat × Nat} {n o k : Nat} (h : FzRel fz fr n) (hc : fz.clear o k = true) (hn : o + k ≤ n) :
    ∀ j, o ≤ j → j < o + k → ¬ (fr.1 ≤ j ∧ j < fr.2) := by
  intro j h1 h2
  cases fz with
  | none => have : fr.1 = fr.2 := h; omega
  | mark =>
    have h' : fr.1 = fr.2 ∨ fr = (n, n + 1) := h
    rcases h' with h' | rfl
    · omega
    · simp only; omega
  | range lo hi =>
    obtain ⟨rfl, hlt⟩ := h
    simp only [Fz.clear, Bool.or_eq_true] at hc
    rcases hc with hc | hc
    · have := Nat.le_of_ble_eq_true hc; simp only; omega
    · have : o + k ≤ lo := Nat.le_of_ble_eq_true hc; simp only; omega

def allOne : List AV → Bool
  | [] => true
  | v :: l => and (oneA v) (allOne l)
theorem allOne_spec : ∀ (l : List AV), allOne l = true → ∀ v ∈ l, oneA v = true
  | [], _, v, hv => by cases hv
  | u :: l, h, v, hv => by
    simp only [allOne, Bool.and_eq_true] at h
    rcases List.mem_cons.1 hv with rfl | hv
    · exact h.1
    · exact allOne_spec l h.2 v hv

noncomputable def putCells (G : Nat) (h : Hp) (b o : Nat) (l : List AV) : Option Hp :=
  match h.get b with
  | some (.cells c n ty fz opn) => match and (Nat.ble G b) (and (Nat.ble (Nat.add o l.length) n) (and (allOne l) (fz.clear o l.length))) with
    | true => some (h.set b (.cells (setMany l c o) n ty fz opn))
    | false => none
  | _ => none

/-- cells of a block written at once: in the abstract and in the world -/
theorem ORel.setMany {c : Trie AV} {n ty : Nat} {fz : Fz} {opn ex : Nat} {cs : Array Value} {fr : Nat × Nat} {o : Nat} {l : List AV}
    (h1 : cs.size = n + ex * opn) (hk : n ≤ keyMax) (h3 : FzRel fz fr cs.size)
    (h4 : ∀ i, i < n → ∀ v, c.get i = some v → okv ρ.d v ∧ cs[i]? = some (toV ρ v)) (hl : okvs ρ.d l) (hn : o + l.length ≤ n) :
    ORel ρ ex (.cells (setMany l c o) n ty fz opn) (.cells (setArr (l.map (toV ρ)) cs o) ty fr) := by
  refine ⟨_, fr, rfl, by rw [setArr_size]; exact h1, hk, by rw [setArr_size]; exact h3, fun i hi v hv => ?_⟩
  have hle : n ≤ cs.size := by omega
  rw [setMany_get l c o i (by omega) (by omega)] at hv
  rw [setArr_get _ _ _ _ (by rw [List.length_map]; omega), List.length_map]
  by_cases h : o ≤ i ∧ i < o + l.length
  · rw [if_pos h] at hv ⊢
    refine ⟨(okvs_iff _ _).1 hl v (List.mem_of_getElem? hv), ?_⟩
    rw [List.getElem?_map, hv]; rfl
  · rw [if_neg h] at hv ⊢
    exact h4 i hi v hv

theorem put_sound (H : HRel G w0 ρ h nx w) {b o : Nat} {l : List AV} {h' : Hp} (hd : ρ.d b) (hl : okvs ρ.d l) (hp : putCells G h b o l = some h') :
    ∃ w', (storeCells ⟨ρ.m b, o, none⟩ (l.map (toV ρ)) 0).run P w = .ok () w' ∧ HRel G w0 ρ h' nx w' ∧ Ext ρ h nx ρ h' nx := by
  unfold putCells at hp
  split at hp
  · rename_i c n ty fz opn hg
    split at hp
    · rename_i hb
      simp only [Bool.and_eq_true] at hb
      obtain ⟨hG, hn, h1, hcl⟩ := hb
      have hG : G ≤ b := Nat.le_of_ble_eq_true hG
      have hn : o + l.length ≤ n := Nat.le_of_ble_eq_true hn
      simp only [Option.some.injEq] at hp
      subst hp
      obtain ⟨cs, fr, hx, k1, kk, k3, k4⟩ := H.cells hd hg
      have k1' : n ≤ cs.size := by omega
      obtain ⟨w', hr, hu⟩ := run_storeCells_gen (P := P) (ρ.m b) o ty fr (l.map (toV ρ)) 0 cs w hx (by rw [List.length_map]; omega)
        (fun v hv => by
          obtain ⟨u, hu, rfl⟩ := List.mem_map.1 hv
          exact one_toV ρ (allOne_spec l h1 u hu))
        (fun j a b => Fz.clear_spec k3 hcl (by omega) j (by omega) (by rw [List.length_map] at b; omega))
      obtain ⟨H', E⟩ := H.upd hg hd hG hu (o' := .cells (Vai.setMany l c o) n ty fz opn) (ORel.setMany k1 kk k3 k4 hl hn)
      exact ⟨w', hr, H', E⟩
    · simp at hp
  · simp at hp

/-! ### new rows of cells -/
noncomputable def mkT (l : List AV) : Trie AV := setMany l .leaf 0
theorem mkT_get (l : List AV) (i : Nat) (hl : l.length ≤ keyMax) (hi : i < keyMax) : (mkT l).get i = l[i]? := by
  unfold mkT
  rw [setMany_get l _ 0 i (by omega) hi]
  by_cases h : i < l.length
  · rw [if_pos (by omega)]; simp
  · rw [if_neg (by omega), get_leaf, List.getElem?_eq_none (by omega)]

theorem ORel_row {l : List AV} {ty : TypeId} {fz : Fz} {fr : Nat × Nat} (hl : okvs ρ.d l) (hk : l.length ≤ keyMax) (rest : Array Value) (opn ex : Nat) (hr : rest.size = ex * opn)
    (hf : FzRel fz fr (l.length + rest.size)) :
    ORel ρ ex (.cells (mkT l) l.length ty fz opn) (.cells ((l.map (toV ρ)).toArray ++ rest) ty fr) := by
  refine ⟨_, fr, rfl, by simp [hr], hk, by simpa using hf, fun i hi v hv => ?_⟩
  rw [mkT_get l i hk (by omega)] at hv
  refine ⟨(okvs_iff _ _).1 hl v (List.mem_of_getElem? hv), ?_⟩
  rw [Array.getElem?_append_left (by simpa using hi)]
  simp [hv]
end

end Go.Vai
