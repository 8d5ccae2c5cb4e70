/- Maps whose keys are integers: written, emptied, copied. -/
import Derived.Test.YtjkpgkmhkgngpaaGreatDoorVaiT
namespace Go.Vai
open Go.RowKit

section
variable {P : Program} {G : Nat} {w0 : Base} {ρ : Ren} {h : Hp} {nx : Nat} {w : World}

theorem entriesRel_append : ∀ {es fs : List (AV × AV × Nat)} {l m : List MapEntry}, entriesRel ρ es l → entriesRel ρ fs m → entriesRel ρ (es ++ fs) (l ++ m)
  | [], _, [], _, _, h => h
  | (_, _, _) :: _, _, _ :: _, _, ⟨a, b, c, d⟩, h => ⟨a, b, c, entriesRel_append d h⟩
  | [], _, _ :: _, _, h, _ => h.elim
  | _ :: _, _, [], _, h, _ => h.elim
theorem entriesRel_erase : ∀ {es : List (AV × AV × Nat)} {l : List MapEntry} (i : Nat), entriesRel ρ es l → entriesRel ρ (es.eraseIdx i) (l.eraseIdx i)
  | [], [], _, _ => trivial
  | (_, _, _) :: _, _ :: _, 0, ⟨_, _, _, d⟩ => d
  | (_, _, _) :: _, _ :: _, i + 1, ⟨a, b, c, d⟩ => ⟨a, b, c, entriesRel_erase i d⟩
  | [], _ :: _, _, h => h.elim
  | _ :: _, [], _, h => h.elim

theorem setObj_upd {c : Nat} {x y : Obj} (hx : w.heap[c]? = some x) : UpdAt w { w with heap := w.heap.setIfInBounds c y } c y :=
  ⟨rfl, rfl, rfl, by simp, by simp [Array.getElem?_setIfInBounds_self_of_lt (Array.getElem?_eq_some_iff.1 hx).1], fun k hk => by simp [Array.getElem?_setIfInBounds_ne (Ne.symm hk)]⟩
theorem run_setObj {c cl : Nat} {l : Array MapEntry} {y : Obj} (hx : w.heap[c]? = some (.map l cl)) : (setObj c y).run P w = .ok () { w with heap := w.heap.setIfInBounds c y } := by
  simp [setObj, Sem.run, hx]

/-- a new entry; one that is there is not written anew -/
noncomputable def fMapPut (G : Nat) (h : Hp) (m k v : AV) : Option Hp := match m with
  | .map b => match Nat.ble G b with
    | true => match k with
      | .int kk n => match h.get b with
        | some (.map es clock) => match findM kk n es 0 with
          | some none => some (h.set b (.map (es ++ [(.int kk n, v, clock)]) (Nat.succ clock)))
          | _ => none
        | _ => none
      | _ => none
    | false => none
  | _ => none
theorem mapPut_sound (H : HRel G w0 ρ h nx w) {t e : TypeId} {m k v : AV} {h' : Hp} (ht : mapT P t = some e) (hm : okv ρ.d m) (hv : okv ρ.d v) (hr : fMapPut G h m k v = some h') :
    ∃ w', (Instr.mapUpdate t (toV ρ m) (toV ρ k) (toV ρ v)).run P w = .ok () w' ∧ HRel G w0 ρ h' nx w' ∧ Ext ρ h nx ρ h' nx := by
  obtain ⟨kt, kd, hu, hk⟩ := mapT_spec ht
  unfold fMapPut at hr
  split at hr
  · rename_i b
    split at hr
    · rename_i hG
      have hG : G ≤ b := Nat.le_of_ble_eq_true hG
      split at hr
      · rename_i kk n
        split at hr
        · rename_i es clock hg
          obtain ⟨l, hl, rel⟩ := H.mapObj hm hg
          split at hr
          · rename_i hp
            simp only [Option.some.injEq] at hr; subst hr
            obtain ⟨f1, _⟩ := findM_spec (kd := kd) rel hp
            have hf := run_findKey (P := P) (w := w) hk f1
            have hgo : (getObj (ρ.m b)).run P w = .ok (.map l clock) w := by simp [getObj, Sem.run, hl]
            have hc := run_checkKey (P := P) (w := w) (kk := kk) (n := n) (b := false) hk
            obtain ⟨H', E⟩ := H.upd hg hm hG (setObj_upd (y := .map (l.push { key := .int kk n, val := toV ρ v, born := clock }) (clock + 1)) hl)
              (o' := .map (es ++ [(.int kk n, v, clock)]) (clock + 1)) ⟨_, rfl, by
                rw [Array.toList_push]
                exact entriesRel_append rel ⟨⟨⟩, hv, by simp [toV], trivial⟩⟩
            refine ⟨_, ?_, H', E⟩
            simp [Instr.mapUpdate, run_underlying hu, toV, hgo, hc, hf, run_setObj hl]
          · simp at hr
        · simp at hr
      · simp at hr
    · simp at hr
  · simp at hr

noncomputable def fMapDel (G : Nat) (h : Hp) (m k : AV) : Option Hp := match k with
  | .int kk n => match m with
    | .mnil => some h
    | .map b => match Nat.ble G b with
      | true => match h.get b with
        | some (.map es clock) => match findM kk n es 0 with
          | some (some p) => some (h.set b (.map (es.eraseIdx p.1) clock))
          | some none => some (h.set b (.map es clock))
          | none => none
        | _ => none
      | false => none
    | _ => none
  | _ => none
theorem mapDel_sound (H : HRel G w0 ρ h nx w) {t e ty kt : TypeId} {m k : AV} {h' : Hp} (ht : mapT P t = some e) (hm : okv ρ.d m) (hr : fMapDel G h m k = some h') :
    EffAt P G w0 ρ h nx w (Builtin.delete_ #[t, kt] ty #[toV ρ m, toV ρ k]) undefA h' nx := by
  obtain ⟨kt', kd, hu, hk⟩ := mapT_spec ht
  unfold fMapDel at hr
  split at hr
  · rename_i kk n
    split at hr
    · simp only [Option.some.injEq] at hr; subst hr
      have hc := run_checkKey (P := P) (w := w) (kk := kk) (n := n) (b := true) hk
      exact ⟨ρ, w, by simp [Builtin.delete_, run_underlying hu, toV, hc, undefA, toVs], ⟨⟩, H, Ext.refl _ _ _⟩
    · rename_i b
      split at hr
      · rename_i hG
        have hG : G ≤ b := Nat.le_of_ble_eq_true hG
        split at hr
        · rename_i es clock hg
          obtain ⟨l, hl, rel⟩ := H.mapObj hm hg
          have hgo : (getObj (ρ.m b)).run P w = .ok (.map l clock) w := by simp [getObj, Sem.run, hl]
          have hc := run_checkKey (P := P) (w := w) (kk := kk) (n := n) (b := l.isEmpty) hk
          split at hr
          · rename_i p hp
            simp only [Option.some.injEq] at hr; subst hr
            obtain ⟨f1, _⟩ := findM_spec (kd := kd) rel hp
            have hf := run_findKey (P := P) (w := w) hk f1
            obtain ⟨H', E⟩ := H.upd hg hm hG (setObj_upd (y := .map (l.eraseIdxIfInBounds p.1) clock) hl) (o' := .map (es.eraseIdx p.1) clock) ⟨_, rfl, by
              rw [show (l.eraseIdxIfInBounds p.1).toList = l.toList.eraseIdx p.1 by simp [Array.eraseIdxIfInBounds]; split <;> simp_all [List.eraseIdx_of_length_le]]
              exact entriesRel_erase p.1 rel⟩
            exact ⟨ρ, _, by simp [Builtin.delete_, run_underlying hu, toV, hgo, hc, hf, run_setObj hl, undefA, toVs], ⟨⟩, H', E⟩
          · rename_i hp
            simp only [Option.some.injEq] at hr; subst hr
            obtain ⟨f1, _⟩ := findM_spec (kd := kd) rel hp
            have hf := run_findKey (P := P) (w := w) hk f1
            obtain ⟨H', E⟩ := H.upd hg hm hG (setObj_upd (y := .map l clock) hl) (o' := .map es clock) ⟨_, rfl, rel⟩
            exact ⟨ρ, _, by simp [Builtin.delete_, run_underlying hu, toV, hgo, hc, hf, run_setObj hl, undefA, toVs], ⟨⟩, H', E⟩
          · simp at hr
        · simp at hr
      · simp at hr
    · simp at hr
  · simp at hr

noncomputable def fMapClear (G : Nat) (h : Hp) (m : AV) : Option Hp := match m with
  | .mnil => some h
  | .map b => match Nat.ble G b with
    | true => match h.get b with
      | some (.map _ clock) => some (h.set b (.map [] clock))
      | _ => none
    | false => none
  | _ => none
theorem mapClear_sound (H : HRel G w0 ρ h nx w) {t e ty : TypeId} {m : AV} {h' : Hp} (ht : mapT P t = some e) (hm : okv ρ.d m) (hr : fMapClear G h m = some h') :
    EffAt P G w0 ρ h nx w (Builtin.clear_ #[t] ty #[toV ρ m]) undefA h' nx := by
  obtain ⟨kt, kd, hu, hk⟩ := mapT_spec ht
  unfold fMapClear at hr
  split at hr
  · simp only [Option.some.injEq] at hr; subst hr
    exact ⟨ρ, w, by simp [Builtin.clear_, run_underlying hu, toV, undefA, toVs], ⟨⟩, H, Ext.refl _ _ _⟩
  · rename_i b
    split at hr
    · rename_i hG
      have hG : G ≤ b := Nat.le_of_ble_eq_true hG
      split at hr
      · rename_i es clock hg
        simp only [Option.some.injEq] at hr; subst hr
        obtain ⟨l, hl, rel⟩ := H.mapObj hm hg
        have hgo : (getObj (ρ.m b)).run P w = .ok (.map l clock) w := by simp [getObj, Sem.run, hl]
        obtain ⟨H', E⟩ := H.upd hg hm hG (setObj_upd (y := .map #[] clock) hl) (o' := .map [] clock) ⟨_, rfl, trivial⟩
        exact ⟨ρ, _, by simp [Builtin.clear_, run_underlying hu, toV, hgo, run_setObj hl, undefA, toVs], ⟨⟩, H', E⟩
      · simp at hr
    · simp at hr
  · simp at hr

/-- a slice's elements, made zero -/
noncomputable def fSlClear (G k : Nat) (zl : List AV) (h : Hp) (x : AV) : Option Hp := match x with
  | .snil => some h
  | .edge _ _ _ => some h
  | .slice b o len _ _ => match Nat.beq len 0 with
    | true => some h
    | false => match Nat.beq k 0 with
      | true => none
      | false => putCells G h b o (zerosL zl k (Nat.mul len k))
  | _ => none
theorem slClear_sound (H : HRel G w0 ρ h nx w) {t e ty : TypeId} {k bytes : Nat} {zl : List AV} {x : AV} {h' : Hp} (ht : elemZ P t = some (e, k, bytes, zl)) (hx : okv ρ.d x)
    (hr : fSlClear G k zl h x = some h') : EffAt P G w0 ρ h nx w (Builtin.clear_ #[t] ty #[toV ρ x]) undefA h' nx := by
  obtain ⟨hu, i, z, hi, hz, hk, _, hl, hs, hzc, hzo⟩ := elemZ_spec ht
  unfold fSlClear at hr
  split at hr
  · simp only [Option.some.injEq] at hr; subst hr
    exact ⟨ρ, w, by simp [Builtin.clear_, run_underlying hu, toV, undefA, toVs], ⟨⟩, H, Ext.refl _ _ _⟩
  · simp only [Option.some.injEq] at hr; subst hr
    exact ⟨ρ, w, by simp [Builtin.clear_, run_underlying hu, toV, undefA, toVs], ⟨⟩, H, Ext.refl _ _ _⟩
  · rename_i b o len cap opn
    split at hr
    · rename_i h0
      rw [Nat.beq_eq] at h0
      subst h0
      simp only [Option.some.injEq] at hr; subst hr
      exact ⟨ρ, w, by simp [Builtin.clear_, run_underlying hu, toV, undefA, toVs], ⟨⟩, H, Ext.refl _ _ _⟩
    · rename_i h0
      rw [beq_eq, decide_eq_false_iff_not] at h0
      split at hr
      · simp at hr
      · rename_i k0
        rw [beq_eq, decide_eq_false_iff_not] at k0
        have hm : Nat.mul len k = len * zl.length := by rw [hl]; rfl
        obtain ⟨z1, z2⟩ := zerosL_spec (ρ := ρ) (n := len * zl.length) hzc (fun _ => by omega) hzo
        rw [hm, ← hl] at hr
        obtain ⟨w', r1, r2, r3⟩ := put_sound (P := P) H hx (z2 _) hr
        have z1' : (zerosL zl zl.length (len * zl.length)).map (toV ρ) = (Builtin.zeroCells z.cells len).toList := by
          rw [hs, ← hl] at z1
          rw [zeroCells_eq, hs, ← hl, ← z1]
        rw [z1'] at r1
        have hzv : (zeroValue e).run P w = .ok z w := by simp [zeroValue, run_typeInfo _ hi, hz]
        refine ⟨ρ, w', ?_, ⟨⟩, r2, r3⟩
        have hne : ∀ (a : Option Addr) (c : Nat), toV ρ (.slice b o len cap opn) = .slice (some ⟨ρ.m b, o, none⟩) len (if opn then cap + ρ.e b else cap) := fun _ _ => rfl
        cases len with
        | zero => exact absurd rfl h0
        | succ len =>
          simp [Builtin.clear_, run_underlying hu, toV, hzv, r1, undefA, toVs]
  · simp at hr

noncomputable def fMapClone (h : Hp) (n : Nat) (x : AV) : Option (AV × Hp) := match x with
  | .iface t (.map b) => match h.get b with
    | some (.map es clock) => some (.iface t (.map n), h.set n (.map es clock))
    | _ => none
  | _ => none
theorem mapClone_sound (H : HRel G w0 ρ h nx w) {x r : AV} {h' : Hp} (hn : nx < keyMax) (hx : okv ρ.d x) (hr : fMapClone h nx x = some (r, h')) :
    EffAt P G w0 ρ h nx w (Extern.MapsClone.clone #[toV ρ x]) r h' (nx + 1) := by
  unfold fMapClone at hr
  split at hr
  · rename_i t b
    split at hr
    · rename_i es clock hg
      simp only [Option.some.injEq, Prod.mk.injEq] at hr
      obtain ⟨rfl, rfl⟩ := hr
      have hd : ρ.d b := hx
      obtain ⟨l, hl, rel⟩ := H.mapObj hd hg
      have hgo : (getObj (ρ.m b)).run P w = .ok (.map l clock) w := by simp [getObj, Sem.run, hl]
      obtain ⟨H', E⟩ := H.new (o := .map es clock) (x := .map l clock) hn 0 ⟨l, rfl, rel⟩
      have e : Extern.MapsClone.clone #[.iface t (.map (some (ρ.m b)))] = (do
          let o ← getObj (ρ.m b)
          match o with
          | .map entries clock => do pure (.iface t (.map (some (← newObj (.map entries clock)))))
          | _ => stuck "maps.clone: a map expected" : Sem Value) := rfl
      refine ⟨_, _, ?_, by simp [okv, Ren.put], H', E⟩
      rw [show toV ρ (.iface t (.map b)) = .iface t (.map (some (ρ.m b))) by simp [toV], e]
      simp [hgo, toV, Ren.put]
    · simp at hr
  · simp at hr
end
end Go.Vai
