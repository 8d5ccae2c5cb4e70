/- The operations that make no memory and turn none: values out of values, and out of memory. -/
import Derived.Test.YtcmgneannfobgaaGreatDoorVaiD
import Derived.Laws.Slices
import Derived.Laws.BytesString
import Derived.ChangeKeysEq
namespace Go.Vai
open Go.RowKit

/-! ### constants -/
def constS : Value → Option AV
  | .bool b => some (.bool b)
  | .int k n => some (.int k n)
  | .string s => some (.str s.data.toList.length (ofBytes s.data.toList))
  | .pointer none => some .nilp
  | .slice none 0 0 => some .snil
  | .map none => some .mnil
  | .nilFunc => some .nilFunc
  | .nilIface => some .nilIface
  | _ => none
def constsS : List Value → Option (List AV)
  | [] => some []
  | v :: l => match constS v with
    | some a => match constsS l with
      | some r => some (a :: r)
      | none => none
    | none => none
def constA : Value → Option AV
  | .agg cs => match constsS cs.toList with
    | some l => some (.agg l)
    | none => none
  | v => constS v

theorem constS_sound {v : Value} {a : AV} (h : constS v = some a) (ρ : Ren) (d : Nat → Prop) : toV ρ a = v ∧ okv d a ∧ cellsA a = [a] := by
  unfold constS at h
  split at h <;> simp only [Option.some.injEq, reduceCtorEq] at h <;> subst h
  case h_3 s =>
    refine ⟨?_, ofBytes_lt s.data.toList, rfl⟩
    simp only [toV, strOf, bytesOf_ofBytes, Array.toArray_toList]
  all_goals simp [toV, okv, cellsA]
theorem constsS_sound : ∀ {l : List Value} {r : List AV}, constsS l = some r → ∀ (ρ : Ren) (d : Nat → Prop), r.map (toV ρ) = l ∧ okvs d r
  | [], r, h, _, _ => by simp [constsS] at h; subst h; exact ⟨rfl, trivial⟩
  | v :: l, r, h, ρ, d => by
    simp only [constsS] at h
    split at h
    · rename_i a ha
      split at h
      · rename_i q hq
        simp only [Option.some.injEq] at h; subst h
        obtain ⟨h1, h2, _⟩ := constS_sound ha ρ d
        obtain ⟨h3, h4⟩ := constsS_sound hq ρ d
        exact ⟨by simp [h1, h3], h2, h4⟩
      · simp at h
    · simp at h
theorem constA_sound {v : Value} {a : AV} (h : constA v = some a) (ρ : Ren) (d : Nat → Prop) : toV ρ a = v ∧ okv d a := by
  unfold constA at h
  split at h
  · rename_i cs
    split at h
    · rename_i l hl
      simp only [Option.some.injEq] at h; subst h
      obtain ⟨h1, h2⟩ := constsS_sound hl ρ d
      exact ⟨by simp [toV, toVs_map, h1], h2⟩
    · simp at h
  · exact ⟨(constS_sound h ρ d).1, (constS_sound h ρ d).2.1⟩

/-! ### slots and operands -/
abbrev T := Trie AV
def undefA : AV := .tuple []
noncomputable def slot (t : T) (i : Nat) : AV := @Option.rec AV (fun _ => AV) undefA (fun v => v) (t.get (Nat.succ i))
theorem slot_eq (t : T) (i : Nat) : slot t i = (t.get (i + 1)).getD undefA := by
  show @Option.rec AV _ _ _ (t.get (i + 1)) = _
  cases t.get (i + 1) <;> rfl

structure TRel (ρ : Ren) (N : Nat) (t : T) (tm : Array Value) : Prop where
  size : tm.size = N
  lim : N < keyMax
  at_ : ∀ i, i < N → okv ρ.d (slot t i) ∧ tm[i]? = some (toV ρ (slot t i))

theorem TRel.le {ρ ρ' : Ren} {N : Nat} {t : T} {tm : Array Value} (h : TRel ρ N t tm) (hl : ρ.Le ρ') : TRel ρ' N t tm :=
  ⟨h.size, h.lim, fun i hi => ⟨okv_mono hl.d _ (h.at_ i hi).1, by rw [toV_le hl _ (h.at_ i hi).1]; exact (h.at_ i hi).2⟩⟩

noncomputable def setSlot (t : T) (i : Nat) (v : AV) : T := t.set (Nat.succ i) v
theorem slot_set_same (t : T) (i : Nat) (v : AV) : slot (setSlot t i v) i = v := by
  rw [slot_eq]; unfold setSlot; rw [get_set_same]; rfl
theorem slot_set_other (t : T) {i j : Nat} (v : AV) (hi : i + 1 < keyMax) (hj : j + 1 < keyMax) (h : i ≠ j) : slot (setSlot t i v) j = slot t j := by
  rw [slot_eq, slot_eq]; unfold setSlot; rw [get_set_other _ _ hi hj (by omega)]

theorem TRel.set {ρ : Ren} {N : Nat} {t : T} {tm : Array Value} (h : TRel ρ N t tm) {i : Nat} (hi : i < N) {v : AV} (hv : okv ρ.d v) :
    TRel ρ N (setSlot t i v) (tm.setIfInBounds i (toV ρ v)) := by
  have hl := h.lim
  refine ⟨by simp [h.size], h.lim, fun j hj => ?_⟩
  by_cases e : i = j
  · subst e
    rw [slot_set_same]
    exact ⟨hv, by rw [Array.getElem?_setIfInBounds_self_of_lt (by rw [h.size]; exact hi)]⟩
  · rw [slot_set_other t v (by omega) (by omega) e, Array.getElem?_setIfInBounds_ne e]
    exact h.at_ j hj

/-- what an operand is; 'none': it is not one of ours -/
noncomputable def opnd (G N : Nat) : Operand → Option (T → AV)
  | .tmp i => match Nat.blt i N with
    | true => some (fun t => slot t i)
    | false => none
  | .const v => match constA v with
    | some a => some (fun _ => a)
    | none => none
  | .global g => match Nat.blt g G with
    | true => some (fun _ => .ptr g 0)
    | false => none
  | .func f => some (fun _ => .func (.func f) [] [])

section
variable {G : Nat} {w0 : World} {ρ : Ren} {h : Hp} {nx : Nat} {w : World} {P : Program} {N : Nat} {t : T} {a : Act}

theorem opnd_sound (H : HRel G w0 ρ h nx w) (R : TRel ρ N t a.tmps) {x : Operand} {f : T → AV} (hx : opnd G N x = some f) :
    okv ρ.d (f t) ∧ a.eval x = toV ρ (f t) := by
  unfold opnd at hx
  split at hx
  · rename_i i
    split at hx
    · rename_i hi
      simp only [Option.some.injEq] at hx; subst hx
      have hi : i < N := by rw [blt_eq] at hi; exact of_decide_eq_true hi
      obtain ⟨h1, h2⟩ := R.at_ i hi
      refine ⟨h1, ?_⟩
      simp [Act.eval, Array.getD_eq_getD_getElem?, h2]
    · simp at hx
  · split at hx
    · rename_i v c hc
      simp only [Option.some.injEq] at hx; subst hx
      obtain ⟨h1, h2⟩ := constA_sound hc ρ ρ.d
      exact ⟨h2, h1.symm⟩
    · simp at hx
  · rename_i g
    split at hx
    · rename_i hi
      simp only [Option.some.injEq] at hx; subst hx
      have hi : g < G := by rw [blt_eq] at hi; exact of_decide_eq_true hi
      obtain ⟨h1, h2⟩ := H.glob g hi
      exact ⟨h1, by simp [Act.eval, toV, h2]⟩
    · simp at hx
  · simp only [Option.some.injEq] at hx; subst hx
    exact ⟨⟨trivial, trivial⟩, by simp [Act.eval, toV, toVs]⟩
end

/-! ### types -/
def isAggD : TypeDesc → Bool
  | .struct _ | .array _ _ => true
  | _ => false
/-- is a variable of the type an aggregate, and of how many cells -/
def tInfo (P : Program) (t : TypeId) : Option (Bool × Nat) :=
  match P.underlying t with
  | some d => match P.info? t with
    | some i => some (isAggD d, i.size)
    | none => none
  | none => none

theorem tInfo_spec {P : Program} {t : TypeId} {agg : Bool} {k : Nat} (h : tInfo P t = some (agg, k)) (w : World) :
    (isAgg t).run P w = .ok agg w ∧ (sizeOf t).run P w = .ok k w := by
  unfold tInfo at h
  split at h
  · rename_i d hd
    split at h
    · rename_i i hi
      simp only [Option.some.injEq, Prod.mk.injEq] at h
      obtain ⟨rfl, rfl⟩ := h
      constructor
      · simp only [isAgg, Sem.run_bind, run_underlying hd, Result.andThen_ok]
        cases d <;> simp [isAggD]
      · simp [sizeOf, run_typeInfo _ hi]
    · simp at h
  · simp at h

/-! ### loads -/
noncomputable def fLoad (agg : Bool) (k : Nat) (h : Hp) (v : AV) : Option AV :=
  match v with
  | .ptr b o => match agg with
    | true => match rdCells h b o k with
      | some l => some (.agg l)
      | none => none
    | false => match rdCells h b o 1 with
      | some (x :: _) => some x
      | _ => none
  | _ => none

section
variable {G : Nat} {w0 : World} {ρ : Ren} {h : Hp} {nx : Nat} {w : World} {P : Program}

theorem loadVar_sound (H : HRel G w0 ρ h nx w) {t : TypeId} {agg : Bool} {k : Nat} (ht : tInfo P t = some (agg, k)) {b o : Nat} {r : AV} (hv : ρ.d b)
    (hr : fLoad agg k h (.ptr b o) = some r) : (loadVar t ⟨ρ.m b, o, none⟩).run P w = .ok (toV ρ r) w ∧ okv ρ.d r := by
  obtain ⟨h1, h2⟩ := tInfo_spec ht w
  cases agg with
  | true =>
    simp only [fLoad] at hr
    split at hr
    · rename_i l hl
      simp only [Option.some.injEq] at hr; subst hr
      refine ⟨?_, (rd_sound H hv hl).1⟩
      simp only [loadVar, Sem.run_bind, h1, Result.andThen_ok, if_true, h2, run_rd H hv hl, Sem.run_pure, toV, toVs_map]
    · simp at hr
  | false =>
    simp only [fLoad] at hr
    split at hr
    · rename_i x rest hl
      simp only [Option.some.injEq] at hr; subst hr
      obtain ⟨h3, _, h4⟩ := rd_sound H hv hl
      refine ⟨?_, h3.1⟩
      have := h4 0 (toV ρ x) (by simp)
      have e : (⟨ρ.m b, o, none⟩ : Addr).add 0 = ⟨ρ.m b, o, none⟩ := rfl
      rw [e] at this
      simp only [loadVar, Sem.run_bind, h1, Result.andThen_ok, Bool.false_eq_true, if_false, run_load, this]
    · simp at hr

theorem load_sound (H : HRel G w0 ρ h nx w) {t : TypeId} {agg : Bool} {k : Nat} (ht : tInfo P t = some (agg, k)) {v r : AV} (hv : okv ρ.d v)
    (hr : fLoad agg k h v = some r) : (Instr.loadAt t (toV ρ v)).run P w = .ok (toV ρ r) w ∧ okv ρ.d r := by
  cases v <;> try (simp [fLoad] at hr; done)
  rename_i b o
  have := loadVar_sound H ht hv hr
  simpa [Instr.loadAt, Instr.sureAddr, toV] using this
end

end Go.Vai
