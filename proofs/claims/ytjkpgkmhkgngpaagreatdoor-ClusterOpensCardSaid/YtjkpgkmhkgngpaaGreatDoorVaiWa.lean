/- Equality of values; an operation run. -/
import Derived.Test.YtjkpgkmhkgngpaaGreatDoorVaiV
namespace Go.Vai
open Go.RowKit

/-! ### equality of abstract values -/
def lvEq (a b : LV) : Bool := and (and (Nat.beq a.j b.j) (eqI a.a b.a)) (and (eqI a.lo b.lo) (Nat.beq a.w b.w))
theorem lvEq_sound {a b : LV} (h : lvEq a b = true) : a = b := by
  obtain ⟨j, x, lo, w⟩ := a
  obtain ⟨j', x', lo', w'⟩ := b
  simp only [lvEq, Bool.and_eq_true, Nat.beq_eq, eqI_eq, beq_iff_eq] at h
  obtain ⟨⟨rfl, rfl⟩, rfl, rfl⟩ := h
  rfl
def lvsEq : List LV → List LV → Bool
  | [], [] => true
  | a :: l, b :: l' => and (lvEq a b) (lvsEq l l')
  | _, _ => false
theorem lvsEq_sound : ∀ (a b : List LV), lvsEq a b = true → a = b
  | [], b, h => by cases b <;> simp [lvsEq] at h; rfl
  | x :: l, b, h => by
    cases b <;> simp [lvsEq] at h
    rw [lvEq_sound h.1, lvsEq_sound _ _ h.2]
def eqNs : List Nat → List Nat → Bool
  | [], [] => true
  | a :: l, b :: l' => and (Nat.beq a b) (eqNs l l')
  | _, _ => false
theorem eqNs_spec : ∀ {a b : List Nat}, eqNs a b = true → a = b
  | [], b, h => by cases b <;> simp [eqNs] at h; rfl
  | x :: a, b, h => by
    cases b with
    | nil => simp [eqNs] at h
    | cons y b =>
      simp only [eqNs, Bool.and_eq_true, Nat.beq_eq] at h
      rw [h.1, eqNs_spec h.2]
def fieldStepEq (a b : FieldStep) : Bool := decide (a = b)
mutual
def avEq : AV → AV → Bool
  | .bool a, .bool b => eqB a b
  | .int k a, .int k' b => and (decide (k = k')) (eqI a b)
  | .str l n, .str l' n' => and (Nat.beq l l') (Nat.beq n n')
  | .nilp, .nilp => true
  | .ptr b o, .ptr b' o' => and (Nat.beq b b') (Nat.beq o o')
  | .snil, .snil => true
  | .slice b o l c p, .slice b' o' l' c' p' => and (and (Nat.beq b b') (Nat.beq o o')) (and (and (Nat.beq l l') (Nat.beq c c')) (eqB p p'))
  | .edge b o d, .edge b' o' d' => and (Nat.beq b b') (and (Nat.beq o o') (Nat.beq d d'))
  | .mnil, .mnil => true
  | .map r, .map r' => Nat.beq r r'
  | .func fn a c, .func fn' a' c' => and (decide (fn = fn')) (and (avsEq a a') (avsEq c c'))
  | .nilFunc, .nilFunc => true
  | .iface t v, .iface t' v' => and (Nat.beq t t') (avEq v v')
  | .nilIface, .nilIface => true
  | .agg a, .agg b => avsEq a b
  | .tuple a, .tuple b => avsEq a b
  | .lint k c l, .lint k' c' l' => and (decide (k = k')) (and (eqI c c') (lvsEq l l'))
  | .lstr n c l, .lstr n' c' l' => and (Nat.beq n n') (and (eqI c c') (lvsEq l l'))
  | .tab k j lo vs, .tab k' j' lo' vs' => and (and (decide (k = k')) (Nat.beq j j')) (and (eqI lo lo') (eqIs vs vs'))
  | .tptr b j lo os, .tptr b' j' lo' os' => and (and (Nat.beq b b') (Nat.beq j j')) (and (eqI lo lo') (eqNs os os'))
  | .ubool j, .ubool j' => Nat.beq j j'
  | .sx k b e, .sx k' b' e' => and (decide (k = k')) (and (Nat.beq b b') (seEq e e'))
  | .aptr a i, .aptr a' i' => and (Nat.beq a a') (Nat.beq i i')
  | .cond j a b, .cond j' a' b' => and (Nat.beq j j') (and (avEq a a') (avEq b b'))
  | _, _ => false
def avsEq : List AV → List AV → Bool
  | [], [] => true
  | a :: l, b :: l' => and (avEq a b) (avsEq l l')
  | _, _ => false
end
mutual
theorem avEq_sound : ∀ (a b : AV), avEq a b = true → a = b
  | .bool a, b, h => by cases b <;> simp [avEq, eqB_eq] at h; subst h; rfl
  | .int k a, b, h => by
    cases b <;> simp [avEq, eqI_eq] at h
    obtain ⟨rfl, rfl⟩ := h; rfl
  | .str l n, b, h => by
    cases b <;> simp [avEq] at h
    obtain ⟨h1, h2⟩ := h; rw [h1, h2]
  | .nilp, b, h => by cases b <;> simp [avEq] at h; rfl
  | .ptr x o, b, h => by
    cases b <;> simp [avEq] at h
    obtain ⟨h1, h2⟩ := h; rw [h1, h2]
  | .snil, b, h => by cases b <;> simp [avEq] at h; rfl
  | .slice x o l c p, b, h => by
    cases b <;> simp [avEq, eqB_eq] at h
    obtain ⟨⟨h1, h2⟩, ⟨h3, h4⟩, h5⟩ := h; rw [h1, h2, h3, h4, h5]
  | .edge x o d, b, h => by
    cases b <;> simp [avEq] at h
    obtain ⟨h1, h2, h3⟩ := h; rw [h1, h2, h3]
  | .mnil, b, h => by cases b <;> simp [avEq] at h; rfl
  | .map r, b, h => by cases b <;> simp [avEq] at h; rw [h]
  | .func fn a c, b, h => by
    cases b <;> simp [avEq] at h
    obtain ⟨h1, h2, h3⟩ := h
    rw [h1, avsEq_sound _ _ h2, avsEq_sound _ _ h3]
  | .nilFunc, b, h => by cases b <;> simp [avEq] at h; rfl
  | .iface t v, b, h => by
    cases b <;> simp [avEq] at h
    obtain ⟨h1, h2⟩ := h; rw [h1, avEq_sound _ _ h2]
  | .nilIface, b, h => by cases b <;> simp [avEq] at h; rfl
  | .agg a, b, h => by cases b <;> simp [avEq] at h; rw [avsEq_sound _ _ h]
  | .tuple a, b, h => by cases b <;> simp [avEq] at h; rw [avsEq_sound _ _ h]
  | .lint k c l, b, h => by
    cases b <;> simp [avEq, eqI_eq] at h
    obtain ⟨h1, h2, h3⟩ := h; rw [h1, h2, lvsEq_sound _ _ h3]
  | .lstr k c l, b, h => by
    cases b <;> simp [avEq, eqI_eq] at h
    obtain ⟨h1, h2, h3⟩ := h; rw [h1, h2, lvsEq_sound _ _ h3]
  | .tab k j lo vs, b, h => by
    cases b <;> simp [avEq, eqI_eq] at h
    obtain ⟨⟨h1, h2⟩, h3, h4⟩ := h; rw [h1, h2, h3, eqIs_spec h4]
  | .tptr k j lo vs, b, h => by
    cases b <;> simp [avEq, eqI_eq] at h
    obtain ⟨⟨h1, h2⟩, h3, h4⟩ := h; rw [h1, h2, h3, eqNs_spec h4]
  | .ubool j, b, h => by
    cases b <;> simp [avEq] at h
    rw [h]
  | .aslice a len cap, b, h => by cases b <;> simp [avEq] at h
  | .sx k n e, b, h => by
    cases b <;> simp [avEq] at h
    rw [h.1, h.2.1, seEq_sound _ _ h.2.2]
  | .aptr a i, b, h => by
    cases b <;> simp [avEq] at h
    rw [h.1, h.2]
  | .cond j x y, b, h => by
    cases b <;> simp [avEq] at h
    obtain ⟨h1, h2, h3⟩ := h; rw [h1, avEq_sound _ _ h2, avEq_sound _ _ h3]
theorem avsEq_sound : ∀ (a b : List AV), avsEq a b = true → a = b
  | [], b, h => by cases b <;> simp [avsEq] at h; rfl
  | x :: l, b, h => by
    cases b <;> simp [avsEq] at h
    rw [avEq_sound _ _ h.1, avsEq_sound _ _ h.2]
end

/-! ### the frame -/
/-- the deferred calls, kept beside the slots -/
def defsOf (t : T) : List AV := t.defs
def pushDef (t : T) (v : AV) : T := ⟨t.f, v :: t.defs⟩
def DRels (ρ : Ren) : List AV → List Deferred → Prop
  | [], [] => True
  | v :: l, d :: l' => DRel ρ v d ∧ DRels ρ l l'
  | _, _ => False

theorem DRel.le {ρ ρ' : Ren} (h : ρ.Le ρ') {v : AV} {d : Deferred} (hd : DRel ρ v d) : DRel ρ' v d := by
  obtain ⟨fn, xs, cs, rfl, rfl, hv⟩ := hd
  have e : ∀ l : List AV, okvs ρ.d l → l.map (toV ρ') = l.map (toV ρ) := fun l hl => by rw [← toVs_map, ← toVs_map, toVs_le h l hl]
  exact ⟨fn, xs, cs, rfl, by rw [e xs hv.1, e cs hv.2], okv_mono h.d _ hv⟩
theorem DRels.le {ρ ρ' : Ren} (h : ρ.Le ρ') : ∀ {l : List AV} {l' : List Deferred}, DRels ρ l l' → DRels ρ' l l'
  | [], [], _ => trivial
  | _ :: _, _ :: _, ⟨a, b⟩ => ⟨a.le h, b.le h⟩

structure ARel (ρ : Ren) (N : Nat) (t : T) (a : Act) : Prop where
  slots : TRel ρ N t a.tmps
  defs : DRels ρ (defsOf t) a.defers

theorem ARel.le {ρ ρ' : Ren} {N : Nat} {t : T} {a : Act} (h : ARel ρ N t a) (hl : ρ.Le ρ') : ARel ρ' N t a := ⟨h.slots.le hl, h.defs.le hl⟩

theorem defsOf_setSlot (t : T) (i : Nat) (v : AV) : defsOf (setSlot t i v) = defsOf t := rfl
theorem slot_pushDef (t : T) (v : AV) (i : Nat) : slot (pushDef t v) i = slot t i := rfl
theorem defsOf_pushDef (t : T) (v : AV) : defsOf (pushDef t v) = v :: defsOf t := rfl

/-- the slot that an operation writes -/
noncomputable def setD (d : Option Tmp) (v : AV) (t : T) : T := match d with
  | some i => setSlot t i v
  | none => t
def dstIn (N : Nat) : Option Tmp → Bool
  | some i => Nat.blt i N
  | none => true
theorem ARel.put {ρ : Ren} {N : Nat} {t : T} {a : Act} (h : ARel ρ N t a) {d : Option Tmp} {v : AV} (hd : dstIn N d = true) (hv : okv ρ.d v) :
    ARel ρ N (setD d v t) (a.put d (toV ρ v)) := by
  cases d with
  | none => exact h
  | some i =>
    have hi : i < N := by simp only [dstIn, blt_eq] at hd; exact of_decide_eq_true hd
    exact ⟨h.slots.set hi hv, h.defs⟩

/-! ### an operation run -/
abbrev KT := AV → T → Hp → Nat → Ans
noncomputable def execC (oc : OC) (self : Self) (t : T) (h : Hp) (n : Nat) (k : KT) : Ans := match oc with
  | .pure f => match f t with
    | some v => k v t h n
    | none => .no 200
  | .read f => match f t h with
    | some v => k v t h n
    | none => .no 201
  | .new f => match f t with
    | some p => match Nat.blt n 16777216 with
      | true => k (nv p.2 n) t (h.set n p.1) (Nat.succ n)
      | false => .no 202
    | none => .no 203
  | .eff f => match f t h n with
    | .ok v h' n' => k v t h' n'
    | .no => .no 204
  | .call f => f self t h n fun v h' n' => k v t h' n'
  | .defer f => match f t with
    | some d => k undefA (pushDef t d) h n
    | none => .no 205
  | .bad m => .no m

section
variable {P : Program} {G N : Nat} {w0 : Base} {ρ : Ren} {h : Hp} {nx : Nat} {w : World} {t : T} {a : Act}

theorem exec_sound {o : Oper} {oc : OC} {self : Self} {k : KT} {K : Act → World → Prop} {Q : Exit → Act → World → Prop} (hoc : OpOK P G N o oc) (hself : SelfOK P G w0 self)
    (H : HRel G w0 ρ h nx w) (A : ARel ρ N t a) (hrun : execC oc self t h nx k = .ok)
    (hK : ∀ ρ' v t' h' n' w' a', Ext ρ h nx ρ' h' n' → HRel G w0 ρ' h' n' w' → ARel ρ' N t' a' → okv ρ'.d v → k v t' h' n' = .ok → K (a'.put o.dst (toV ρ' v)) w') :
    o.wp P a w K Q := by
  unfold Oper.wp
  cases oc with
  | pure f =>
    simp only [execC] at hrun
    split at hrun
    · rename_i v hv
      obtain ⟨h1, h2⟩ := hoc H A.slots hv
      rw [h1]
      exact hK ρ v t h nx w a (Ext.refl _ _ _) H A h2 hrun
    · simp at hrun
  | read f =>
    simp only [execC] at hrun
    split at hrun
    · rename_i v hv
      obtain ⟨h1, h2⟩ := hoc H A.slots hv
      rw [h1]
      exact hK ρ v t h nx w a (Ext.refl _ _ _) H A h2 hrun
    · simp at hrun
  | new f =>
    simp only [execC] at hrun
    split at hrun
    · rename_i p hp
      split at hrun
      · rename_i hn
        rw [blt_eq] at hn
        have hn : nx < keyMax := by unfold keyMax; exact of_decide_eq_true hn
        obtain ⟨ob, f'⟩ := p
        obtain ⟨s, ⟨m, x, e, q1, q2⟩, h2⟩ := hoc H A.slots hp
        rw [h2, q2]
        obtain ⟨H', E⟩ := (H.drawn m).new hn e q1
        obtain ⟨n1, n2⟩ := nv_toV ρ f' nx w.heap.size e
        have := hK (ρ.put nx w.heap.size e) (nv f' nx) t _ _ _ a E H' (A.le E.le) n2 hrun
        rw [n1] at this
        exact this
      · simp at hrun
    · simp at hrun
  | eff f =>
    simp only [execC] at hrun
    split at hrun
    · rename_i v h' n' hv
      obtain ⟨ρ', w', h1, h2, H', E⟩ := hoc H A.slots hv
      have := hK ρ' v t h' n' w' a E H' (A.le E.le) h2 hrun
      rcases h1 with h1 | ⟨h1, rfl⟩
      · rw [h1]; exact this
      · rw [h1]
        have e : toV ρ' undefA = undef := by simp [undefA, toV, toVs, undef]
        rw [e] at this
        exact this
    · simp at hrun
  | call f =>
    simp only [execC] at hrun
    obtain ⟨fid, args, h1, h2⟩ := hoc hself H A.slots hrun
    rw [h1]
    refine h2.mono ?_
    rintro e w' ⟨ρ', v, h', n', rfl, hv, H', E, hk⟩
    exact hK ρ' v t h' n' w' a E H' (A.le E.le) hv hk
  | defer f =>
    simp only [execC] at hrun
    split at hrun
    · rename_i v hv
      obtain ⟨d, h1, h2⟩ := hoc H A.slots hv
      rw [h1]
      have A' : ARel ρ N (pushDef t v) { a with defers := d :: a.defers } := by
        refine ⟨⟨A.slots.size, A.slots.lim, fun i hi => ?_⟩, ?_⟩
        · rw [slot_pushDef t v i]; exact A.slots.at_ i hi
        · rw [defsOf_pushDef]; exact ⟨h2, A.defs⟩
      have := hK ρ undefA (pushDef t v) h nx w _ (Ext.refl _ _ _) H A' ⟨⟩ hrun
      have e : toV ρ undefA = undef := by simp [undefA, toV, toVs, undef]
      rw [e] at this
      exact this
    · simp at hrun
  | bad m => simp [execC] at hrun
end
end Go.Vai
