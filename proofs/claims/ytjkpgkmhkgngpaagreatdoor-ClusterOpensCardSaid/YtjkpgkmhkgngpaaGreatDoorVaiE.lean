/- The operations that make no memory and turn none: values out of values, and out of memory. -/
import Derived.Test.YtjkpgkmhkgngpaaGreatDoorVaiD
import Derived.Laws.Slices
import Derived.Laws.BytesString
import Derived.ChangeKeysEq
namespace Go.Vai
open Go.RowKit

/-! ### constants -/
def constS : Value → Option AV
  | .bool b => some (.bool b)
  | .int k n => some (.int k n)
  | .string s => some (.str s.data.toList.length (ofBytes s.data.toList))
  | .pointer none => some .nilp
  | .slice none 0 0 => some .snil
  | .map none => some .mnil
  | .nilFunc => some .nilFunc
  | .nilIface => some .nilIface
  | _ => none
def constsS : List Value → Option (List AV)
  | [] => some []
  | v :: l => match constS v with
    | some a => match constsS l with
      | some r => some (a :: r)
      | none => none
    | none => none
def constA : Value → Option AV
  | .agg cs => match constsS cs.toList with
    | some l => some (.agg l)
    | none => none
  | v => constS v

theorem constS_sound {v : Value} {a : AV} (h : constS v = some a) (ρ : Ren) (d : Nat → Prop) : toV ρ a = v ∧ okv d a ∧ cellsA a = [a] := by
  unfold constS at h
  split at h <;> simp only [Option.some.injEq, reduceCtorEq] at h <;> subst h
  case h_3 s =>
    refine ⟨?_, ofBytes_lt s.data.toList, rfl⟩
    simp only [toV, strOf, bytesOf_ofBytes, Array.toArray_toList]
  all_goals simp [toV, okv, cellsA]
theorem constsS_sound : ∀ {l : List Value} {r : List AV}, constsS l = some r → ∀ (ρ : Ren) (d : Nat → Prop), r.map (toV ρ) = l ∧ okvs d r
  | [], r, h, _, _ => by simp [constsS] at h; subst h; exact ⟨rfl, trivial⟩
  | v :: l, r, h, ρ, d => by
    simp only [constsS] at h
    split at h
    · rename_i a ha
      split at h
      · rename_i q hq
        simp only [Option.some.injEq] at h; subst h
        obtain ⟨h1, h2, _⟩ := constS_sound ha ρ d
        obtain ⟨h3, h4⟩ := constsS_sound hq ρ d
        exact ⟨by simp [h1, h3], h2, h4⟩
      · simp at h
    · simp at h
theorem constA_sound {v : Value} {a : AV} (h : constA v = some a) (ρ : Ren) (d : Nat → Prop) : toV ρ a = v ∧ okv d a := by
  unfold constA at h
  split at h
  · rename_i cs
    split at h
    · rename_i l hl
      simp only [Option.some.injEq] at h; subst h
      obtain ⟨h1, h2⟩ := constsS_sound hl ρ d
      exact ⟨by simp [toV, toVs_map, h1], h2⟩
    · simp at h
  · exact ⟨(constS_sound h ρ d).1, (constS_sound h ρ d).2.1⟩

/-! ### slots and operands -/
/-- four parts -/
structure Q4 (α : Type) where
  a : α
  b : α
  c : α
  d : α
def F4 : Nat → Type
  | 0 => AV
  | n + 1 => Q4 (F4 n)
structure GB (α : Type) where
  run : α → AV
structure SB (α : Type) where
  run : α → AV → α
noncomputable def getB : (n : Nat) → Nat → GB (F4 n)
  | 0, _ => ⟨fun t => t⟩
  | n + 1, i => match Nat.mod i 4 with
    | 0 => ⟨fun t => (getB n (Nat.div i 4)).run (Q4.a t)⟩
    | 1 => ⟨fun t => (getB n (Nat.div i 4)).run (Q4.b t)⟩
    | 2 => ⟨fun t => (getB n (Nat.div i 4)).run (Q4.c t)⟩
    | _ => ⟨fun t => (getB n (Nat.div i 4)).run (Q4.d t)⟩
noncomputable def setB : (n : Nat) → Nat → SB (F4 n)
  | 0, _ => ⟨fun _ v => v⟩
  | n + 1, i => match Nat.mod i 4 with
    | 0 => ⟨fun t v => Q4.mk ((setB n (Nat.div i 4)).run (Q4.a t) v) (Q4.b t) (Q4.c t) (Q4.d t)⟩
    | 1 => ⟨fun t v => Q4.mk (Q4.a t) ((setB n (Nat.div i 4)).run (Q4.b t) v) (Q4.c t) (Q4.d t)⟩
    | 2 => ⟨fun t v => Q4.mk (Q4.a t) (Q4.b t) ((setB n (Nat.div i 4)).run (Q4.c t) v) (Q4.d t)⟩
    | _ => ⟨fun t v => Q4.mk (Q4.a t) (Q4.b t) (Q4.c t) ((setB n (Nat.div i 4)).run (Q4.d t) v)⟩
def at4 {α : Type} (k : Nat) (q : Q4 α) : α := match k with
  | 0 => q.a
  | 1 => q.b
  | 2 => q.c
  | _ => q.d
theorem getB_succ (n i : Nat) (t : F4 (n + 1)) : (getB (n + 1) i).run t = (getB n (i / 4)).run (at4 (i % 4) (show Q4 (F4 n) from t)) := by
  have h : i % 4 < 4 := Nat.mod_lt _ (by omega)
  show GB.run (match i % 4 with
    | 0 => ⟨fun t => (getB n (i / 4)).run (Q4.a t)⟩
    | 1 => ⟨fun t => (getB n (i / 4)).run (Q4.b t)⟩
    | 2 => ⟨fun t => (getB n (i / 4)).run (Q4.c t)⟩
    | _ => ⟨fun t => (getB n (i / 4)).run (Q4.d t)⟩ : GB (Q4 (F4 n))) t = _
  generalize i % 4 = k at h
  match k, h with
  | 0, _ => rfl
  | 1, _ => rfl
  | 2, _ => rfl
  | 3, _ => rfl
theorem setB_succ (n j k : Nat) (t : F4 (n + 1)) (v : AV) (hk : k < 4) :
    at4 k (show Q4 (F4 n) from (setB (n + 1) j).run t v) = if k = j % 4 then (setB n (j / 4)).run (at4 k (show Q4 (F4 n) from t)) v else at4 k (show Q4 (F4 n) from t) := by
  have h : j % 4 < 4 := Nat.mod_lt _ (by omega)
  show at4 k (SB.run (match j % 4 with
    | 0 => ⟨fun t v => Q4.mk ((setB n (j / 4)).run (Q4.a t) v) (Q4.b t) (Q4.c t) (Q4.d t)⟩
    | 1 => ⟨fun t v => Q4.mk (Q4.a t) ((setB n (j / 4)).run (Q4.b t) v) (Q4.c t) (Q4.d t)⟩
    | 2 => ⟨fun t v => Q4.mk (Q4.a t) (Q4.b t) ((setB n (j / 4)).run (Q4.c t) v) (Q4.d t)⟩
    | _ => ⟨fun t v => Q4.mk (Q4.a t) (Q4.b t) (Q4.c t) ((setB n (j / 4)).run (Q4.d t) v)⟩ : SB (Q4 (F4 n))) t v) = _
  generalize j % 4 = m at h
  match m, h with
  | 0, _ | 1, _ | 2, _ | 3, _ =>
    match k, hk with
    | 0, _ | 1, _ | 2, _ | 3, _ => rfl
theorem getB_setB : ∀ (n i j : Nat) (t : F4 n) (v : AV), i < 4 ^ n → j < 4 ^ n → (getB n i).run ((setB n j).run t v) = if i = j then v else (getB n i).run t
  | 0, i, j, t, v, hi, hj => by
    have h1 : i = 0 := by simp at hi; omega
    have h2 : j = 0 := by simp at hj; omega
    rw [h1, h2]; rfl
  | n + 1, i, j, t, v, hi, hj => by
    rw [getB_succ, setB_succ n j (i % 4) t v (Nat.mod_lt _ (by omega))]
    rw [Nat.pow_succ] at hi hj
    by_cases e : i % 4 = j % 4
    · rw [if_pos e, getB_setB n (i / 4) (j / 4) _ v (by omega) (by omega), getB_succ]
      by_cases f : i / 4 = j / 4
      · rw [if_pos f, if_pos (by omega)]
      · rw [if_neg f, if_neg (fun h => f (by rw [h]))]
    · rw [if_neg e, if_neg (fun h => e (by rw [h])), getB_succ]
noncomputable def emptyF : (n : Nat) → F4 n
  | 0 => (AV.tuple [])
  | n + 1 => Q4.mk (emptyF n) (emptyF n) (emptyF n) (emptyF n)
theorem getB_empty : ∀ (n i : Nat), (getB n i).run (emptyF n) = (AV.tuple [])
  | 0, _ => rfl
  | n + 1, i => by
    have h : i % 4 < 4 := Nat.mod_lt _ (by omega)
    rw [getB_succ]
    have e : at4 (i % 4) (show Q4 (F4 n) from emptyF (n + 1)) = emptyF n := by
      generalize i % 4 = k at h
      match k, h with
      | 0, _ => rfl
      | 1, _ => rfl
      | 2, _ => rfl
      | 3, _ => rfl
    rw [e, getB_empty n]

/-- a frame: the slots, and the deferred calls -/
structure T where
  f : F4 4
  defs : List AV
def undefA : AV := .tuple []
noncomputable def emptyT : T := ⟨emptyF 4, []⟩
noncomputable def slot (t : T) (i : Nat) : AV := (getB 4 i).run t.f
noncomputable def setSlot (t : T) (i : Nat) (v : AV) : T := ⟨(setB 4 i).run t.f v, t.defs⟩
theorem slot_set {t : T} {i j : Nat} {v : AV} (hi : i < 256) (hj : j < 256) : slot (setSlot t i v) j = if j = i then v else slot t j :=
  getB_setB 4 j i t.f v (by simpa using hj) (by simpa using hi)
theorem slot_set_same (t : T) (i : Nat) (v : AV) (hi : i < 256) : slot (setSlot t i v) i = v := by rw [slot_set hi hi, if_pos rfl]
theorem slot_set_other (t : T) {i j : Nat} (v : AV) (hi : i < 256) (hj : j < 256) (h : i ≠ j) : slot (setSlot t i v) j = slot t j := by
  rw [slot_set hi hj, if_neg (Ne.symm h)]
theorem slot_empty (i : Nat) : slot emptyT i = undefA := getB_empty 4 i

structure TRel (ρ : Ren) (N : Nat) (t : T) (tm : Array Value) : Prop where
  size : tm.size = N
  lim : N ≤ 256
  at_ : ∀ i, i < N → okv ρ.d (slot t i) ∧ tm[i]? = some (toV ρ (slot t i))

theorem TRel.le {ρ ρ' : Ren} {N : Nat} {t : T} {tm : Array Value} (h : TRel ρ N t tm) (hl : ρ.Le ρ') : TRel ρ' N t tm :=
  ⟨h.size, h.lim, fun i hi => ⟨okv_mono hl.d _ (h.at_ i hi).1, by rw [toV_le hl _ (h.at_ i hi).1]; exact (h.at_ i hi).2⟩⟩

theorem TRel.set {ρ : Ren} {N : Nat} {t : T} {tm : Array Value} (h : TRel ρ N t tm) {i : Nat} (hi : i < N) {v : AV} (hv : okv ρ.d v) :
    TRel ρ N (setSlot t i v) (tm.setIfInBounds i (toV ρ v)) := by
  have hl := h.lim
  refine ⟨by simp [h.size], h.lim, fun j hj => ?_⟩
  by_cases e : i = j
  · subst e
    rw [slot_set_same _ _ _ (by omega)]
    exact ⟨hv, by rw [Array.getElem?_setIfInBounds_self_of_lt (by rw [h.size]; exact hi)]⟩
  · rw [slot_set_other t v (by omega) (by omega) e, Array.getElem?_setIfInBounds_ne e]
    exact h.at_ j hj

/-- what an operand is; 'none': it is not one of ours -/
noncomputable def opnd (G N : Nat) : Operand → Option (T → AV)
  | .tmp i => match Nat.blt i N with
    | true => some (fun t => slot t i)
    | false => none
  | .const v => match constA v with
    | some a => some (fun _ => a)
    | none => none
  | .global g => match Nat.blt (Nat.add g 4) G with
    | true => some (fun _ => .ptr g 0)
    | false => none
  | .func f => some (fun _ => .func (.func f) [] [])

section
variable {G : Nat} {w0 : Base} {ρ : Ren} {h : Hp} {nx : Nat} {w : World} {P : Program} {N : Nat} {t : T} {a : Act}

theorem opnd_sound (H : HRel G w0 ρ h nx w) (R : TRel ρ N t a.tmps) {x : Operand} {f : T → AV} (hx : opnd G N x = some f) :
    okv ρ.d (f t) ∧ a.eval x = toV ρ (f t) := by
  unfold opnd at hx
  split at hx
  · rename_i i
    split at hx
    · rename_i hi
      simp only [Option.some.injEq] at hx; subst hx
      have hi : i < N := by rw [blt_eq] at hi; exact of_decide_eq_true hi
      obtain ⟨h1, h2⟩ := R.at_ i hi
      refine ⟨h1, ?_⟩
      simp [Act.eval, Array.getD_eq_getD_getElem?, h2]
    · simp at hx
  · split at hx
    · rename_i v c hc
      simp only [Option.some.injEq] at hx; subst hx
      obtain ⟨h1, h2⟩ := constA_sound hc ρ ρ.d
      exact ⟨h2, h1.symm⟩
    · simp at hx
  · rename_i g
    split at hx
    · rename_i hi
      simp only [Option.some.injEq] at hx; subst hx
      have hi : g + 4 < G := by rw [blt_eq] at hi; exact of_decide_eq_true hi
      obtain ⟨h1, h2⟩ := H.glob g hi
      exact ⟨h1, by simp [Act.eval, toV, h2]⟩
    · simp at hx
  · simp only [Option.some.injEq] at hx; subst hx
    exact ⟨⟨trivial, trivial⟩, by simp [Act.eval, toV, toVs]⟩
end

/-! ### types -/
def isAggD : TypeDesc → Bool
  | .struct _ | .array _ _ => true
  | _ => false
/-- is a variable of the type an aggregate, and of how many cells -/
def tInfo (P : Program) (t : TypeId) : Option (Bool × Nat) :=
  match P.underlying t with
  | some d => match P.info? t with
    | some i => some (isAggD d, i.size)
    | none => none
  | none => none

theorem tInfo_spec {P : Program} {t : TypeId} {agg : Bool} {k : Nat} (h : tInfo P t = some (agg, k)) (w : World) :
    (isAgg t).run P w = .ok agg w ∧ (sizeOf t).run P w = .ok k w := by
  unfold tInfo at h
  split at h
  · rename_i d hd
    split at h
    · rename_i i hi
      simp only [Option.some.injEq, Prod.mk.injEq] at h
      obtain ⟨rfl, rfl⟩ := h
      constructor
      · simp only [isAgg, Sem.run_bind, run_underlying hd, Result.andThen_ok]
        cases d <;> simp [isAggD]
      · simp [sizeOf, run_typeInfo _ hi]
    · simp at h
  · simp at h

/-! ### loads -/
noncomputable def load1 (agg : Bool) (k : Nat) (h : Hp) (b o : Nat) : Option AV := match agg with
  | true => match rdCells h b o k with
    | some l => some (.agg l)
    | none => none
  | false => match rdCells h b o 1 with
    | some (x :: _) => some x
    | _ => none
noncomputable def loadAll (agg : Bool) (k : Nat) (h : Hp) (b : Nat) : List Nat → Option (List AV)
  | [] => some []
  | o :: l => match load1 agg k h b o with
    | some v => match loadAll agg k h b l with
      | some r => some (v :: r)
      | none => none
    | none => none
theorem loadAll_spec {agg : Bool} {k : Nat} {h : Hp} {b : Nat} : ∀ {os : List Nat} {rs : List AV}, loadAll agg k h b os = some rs → rs.length = os.length ∧ ∀ (i o : Nat), os[i]? = some o → ∃ r, rs[i]? = some r ∧ load1 agg k h b o = some r
  | [], rs, e => by simp only [loadAll, Option.some.injEq] at e; subst e; exact ⟨rfl, fun i o ho => by simp at ho⟩
  | q :: l, rs, e => by
    simp only [loadAll] at e
    split at e
    · rename_i r hr
      split at e
      · rename_i rs' hrs
        simp only [Option.some.injEq] at e; subst e
        obtain ⟨h1, h2⟩ := loadAll_spec hrs
        refine ⟨by simp [h1], fun i o ho => ?_⟩
        cases i with
        | zero => simp at ho; subst ho; exact ⟨r, by simp, hr⟩
        | succ i =>
          obtain ⟨r', g1, g2⟩ := h2 i o (by simpa using ho)
          exact ⟨r', by simpa using g1, g2⟩
      · simp at e
    · simp at e
noncomputable def fLoad (agg : Bool) (k : Nat) (h : Hp) (v : AV) : Option AV :=
  match v with
  | .ptr b o => match agg with
    | true => match rdCells h b o k with
      | some l => some (.agg l)
      | none => none
    | false => match rdCells h b o 1 with
      | some (x :: _) => some x
      | _ => none
  | .aptr a i => match agg with
    | true => none
    | false => match h.get a with
      | some (.arg l) => l[i]?
      | _ => none
  | .tptr b j lo os => match loadAll agg k h b os with
    | some rs => gatherU (some (j, lo)) rs
    | none => none
  | _ => none

section
variable {G : Nat} {w0 : Base} {ρ : Ren} {h : Hp} {nx : Nat} {w : World} {P : Program}

theorem loadVar_sound (H : HRel G w0 ρ h nx w) {t : TypeId} {agg : Bool} {k : Nat} (ht : tInfo P t = some (agg, k)) {b o : Nat} {r : AV} (hv : ρ.d b)
    (hr : fLoad agg k h (.ptr b o) = some r) : (loadVar t ⟨ρ.m b, o, none⟩).run P w = .ok (toV ρ r) w ∧ okv ρ.d r := by
  obtain ⟨h1, h2⟩ := tInfo_spec ht w
  cases agg with
  | true =>
    simp only [fLoad] at hr
    split at hr
    · rename_i l hl
      simp only [Option.some.injEq] at hr; subst hr
      refine ⟨?_, (rd_sound H hv hl).1⟩
      simp only [loadVar, Sem.run_bind, h1, Result.andThen_ok, if_true, h2, run_rd H hv hl, Sem.run_pure, toV, toVs_map]
    · simp at hr
  | false =>
    simp only [fLoad] at hr
    split at hr
    · rename_i x rest hl
      simp only [Option.some.injEq] at hr; subst hr
      obtain ⟨h3, _, h4⟩ := rd_sound H hv hl
      refine ⟨?_, h3.1⟩
      have := h4 0 (toV ρ x) (by simp)
      have e : (⟨ρ.m b, o, none⟩ : Addr).add 0 = ⟨ρ.m b, o, none⟩ := rfl
      rw [e] at this
      simp only [loadVar, Sem.run_bind, h1, Result.andThen_ok, Bool.false_eq_true, if_false, run_load, this]
    · simp at hr

theorem load_sound (H : HRel G w0 ρ h nx w) {t : TypeId} {agg : Bool} {k : Nat} (ht : tInfo P t = some (agg, k)) {v r : AV} (hv : okv ρ.d v)
    (hr : fLoad agg k h v = some r) : (Instr.loadAt t (toV ρ v)).run P w = .ok (toV ρ r) w ∧ okv ρ.d r := by
  cases v <;> try (simp [fLoad] at hr; done)
  · rename_i b o
    have := loadVar_sound H ht hv hr
    simpa [Instr.loadAt, Instr.sureAddr, toV] using this
  rotate_left
  · rename_i a i
    cases agg with
    | true => simp [fLoad] at hr
    | false =>
      simp only [fLoad] at hr
      split at hr
      · rename_i l hg
        obtain ⟨x, hx, cs, ty, fr, rfl, hl⟩ := H.obj a _ (H.lt a hv) hg hv
        obtain ⟨h1, _, h2⟩ := hl i r hr
        obtain ⟨t1, t2⟩ := tInfo_spec ht w
        refine ⟨?_, h1⟩
        have hc : w.cell? ⟨ρ.m a, ρ.e a + i, none⟩ = some (toV ρ r) := by
          rw [cell_of_row w _ _ cs ty fr hx]; exact h2
        simp only [Instr.loadAt, Instr.sureAddr, toV, Sem.run_bind, Sem.run_pure, Result.andThen_ok]
        simp only [loadVar, Sem.run_bind, t1, Result.andThen_ok, Bool.false_eq_true, if_false, run_load, hc]
      · simp at hr
  · rename_i b j lo os
    simp only [fLoad] at hr
    split at hr
    · rename_i rs hrs
      obtain ⟨l1, l2⟩ := loadAll_spec hrs
      have one : ∀ {o : Nat} {r : AV}, load1 agg k h b o = some r → fLoad agg k h (.ptr b o) = some r := fun {o r} e => by
        unfold load1 at e; unfold fLoad; exact e
      have hpos : 0 < os.length := by
        rw [← l1]
        cases rs with
        | nil => simp [gatherU] at hr
        | cons _ _ => simp
      have hi := tabIx_lt ρ.s j lo hpos
      obtain ⟨x, x1, x2⟩ := l2 _ _ (List.getElem?_eq_getElem hi)
      obtain ⟨q1, q2⟩ := loadVar_sound H ht hv (one x2)
      have hall : okvs ρ.d rs := by
        rw [okvs_iff]
        intro v hv'
        obtain ⟨i, hi', e⟩ := List.getElem_of_mem hv'
        have hi2 : i < os.length := by rw [← l1]; exact hi'
        obtain ⟨y, y1, y2⟩ := l2 i _ (List.getElem?_eq_getElem hi2)
        rw [List.getElem?_eq_getElem hi', Option.some.injEq] at y1
        rw [← e, y1]
        exact (loadVar_sound H ht hv (one y2)).2
      have x1' : rs[ixU ρ.s (some (j, lo)) rs.length]? = some x := by simp only [ixU]; rw [l1]; exact x1
      obtain ⟨g1, g2⟩ := gatherU_spec hr ρ x1' hall
      refine ⟨?_, g2⟩
      rw [g1]
      have e : os.getD (tabIx ρ.s j lo os.length) 0 = os[tabIx ρ.s j lo os.length] := by rw [List.getD_eq_getElem?_getD, List.getElem?_eq_getElem hi]; rfl
      simp only [toV]
      rw [e]
      simpa [Instr.loadAt, Instr.sureAddr] using q1
    · simp at hr
end

end Go.Vai
