/- Types asked of an interface value; maps whose keys are integers. -/
import Derived.Test.YtjkpgkmhkgngpaaGreatDoorVaiO
namespace Go.Vai
open Go.RowKit

/-! ### the zero of a type -/
noncomputable def zeroV (P : Program) (t : TypeId) : Option AV := match P.info? t with
  | some i => match i.zero with
    | some z => constA z
    | none => none
  | none => none
section
variable {P : Program} {G : Nat} {w0 : Base} {ρ : Ren} {h : Hp} {nx : Nat} {w : World}

theorem zeroV_sound {t : TypeId} {z : AV} (hz : zeroV P t = some z) (ρ : Ren) (w : World) : (zeroValue t).run P w = .ok (toV ρ z) w ∧ okv ρ.d z := by
  unfold zeroV at hz
  split at hz
  · rename_i i hi
    split at hz
    · rename_i z' hz'
      obtain ⟨h1, h2⟩ := constA_sound hz ρ ρ.d
      exact ⟨by simp [zeroValue, run_typeInfo _ hi, hz', h1], h2⟩
    · simp at hz
  · simp at hz

/-! ### type assertions -/
def holdsA (ok : Bool) (v : AV) : AV := match ok with
  | true => .tuple [v, .bool true]
  | false => v
noncomputable def failsA (P : Program) (t : TypeId) (ok : Bool) : Option AV := match ok with
  | true => match zeroV P t with
    | some z => some (.tuple [z, .bool false])
    | none => none
  | false => none
noncomputable def fAssert (P : Program) (t : TypeId) (ok : Bool) (x : AV) : Option AV := match P.underlying t with
  | some (.interface want) => match x with
    | .nilIface => failsA P t ok
    | .iface u _ => match P.info? u with
      | some i => match Instr.missingMethod want i.methods with
        | none => some (holdsA ok x)
        | some _ => failsA P t ok
      | none => none
    | _ => none
  | some _ => match x with
    | .nilIface => failsA P t ok
    | .iface u v => match Nat.beq u t with
      | true => some (holdsA ok v)
      | false => failsA P t ok
    | _ => none
  | none => none
theorem assert_sound {xt t : TypeId} {ok : Bool} {x r : AV} (hv : okv ρ.d x) (hr : fAssert P t ok x = some r) : (Instr.typeAssert (toV ρ x) xt t ok).run P w = .ok (toV ρ r) w ∧ okv ρ.d r := by
  have fails : ∀ {s : AV}, failsA P t ok = some s → ok = true ∧ ∃ z, (zeroValue t).run P w = .ok (toV ρ z) w ∧ okv ρ.d z ∧ s = .tuple [z, .bool false] := by
    intro s hs
    unfold failsA at hs
    split at hs
    · split at hs
      · rename_i z hz
        simp only [Option.some.injEq] at hs
        obtain ⟨h1, h2⟩ := zeroV_sound hz ρ w
        exact ⟨rfl, z, h1, h2, hs.symm⟩
      · simp at hs
    · simp at hs
  have holds : ∀ v : AV, okv ρ.d v → ((if ok then .tuple #[toV ρ v, .bool true] else toV ρ v : Value) = toV ρ (holdsA ok v)) ∧ okv ρ.d (holdsA ok v) := by
    intro v h
    cases ok
    · exact ⟨rfl, h⟩
    · exact ⟨by simp [holdsA, toV, toVs], ⟨h, trivial, trivial⟩⟩
  unfold fAssert at hr
  split at hr
  · rename_i want hu
    cases x <;> try (simp at hr; done)
    · rename_i u v
      simp only at hr
      split at hr
      · rename_i i hi
        split at hr
        · rename_i hm
          simp only [Option.some.injEq] at hr; subst hr
          obtain ⟨h1, h2⟩ := holds _ hv
          refine ⟨?_, h2⟩
          rw [← h1]
          simp [Instr.typeAssert, run_underlying hu, toV, run_typeInfo _ hi, hm]
        · rename_i m hm
          obtain ⟨rfl, z, h1, h2, rfl⟩ := fails hr
          refine ⟨?_, h2, trivial, trivial⟩
          simp [Instr.typeAssert, run_underlying hu, toV, toVs, run_typeInfo _ hi, hm, h1]
      · simp at hr
    · obtain ⟨rfl, z, h1, h2, rfl⟩ := fails hr
      refine ⟨?_, h2, trivial, trivial⟩
      simp [Instr.typeAssert, run_underlying hu, toV, toVs, h1]
  · rename_i d hn hu
    cases x <;> try (simp at hr; done)
    · rename_i u v
      simp only at hr
      have e : (Instr.typeAssert (toV ρ (.iface u v)) xt t ok).run P w = (if u = t then (pure (if ok then .tuple #[toV ρ v, .bool true] else toV ρ v) : Sem Value) else
          (if ok then (do pure (.tuple #[← zeroValue t, .bool false])) else runtimePanic (.typeAssertion (some xt) (some u) t ""))).run P w := by
        cases d <;> first | (exact absurd rfl (hn _)) | simp [Instr.typeAssert, run_underlying hu, toV]
      split at hr
      · rename_i he
        have he := Nat.eq_of_beq_eq_true he
        simp only [Option.some.injEq] at hr; subst hr
        obtain ⟨h1, h2⟩ := holds v hv
        exact ⟨by rw [e, if_pos he, h1]; rfl, h2⟩
      · rename_i he
        have he : ¬ u = t := fun x => by rw [x, Nat.beq_refl] at he; simp at he
        obtain ⟨rfl, z, h1, h2, rfl⟩ := fails hr
        refine ⟨?_, h2, trivial, trivial⟩
        rw [e, if_neg he]
        simp [h1, toV, toVs]
    · obtain ⟨rfl, z, h1, h2, rfl⟩ := fails hr
      refine ⟨?_, h2, trivial, trivial⟩
      cases d <;> first | (exact absurd rfl (hn _)) | simp [Instr.typeAssert, run_underlying hu, toV, toVs, h1]
  · simp at hr

/-! ### maps -/
/-- the type of the elements of a map whose keys are integers -/
def mapT (P : Program) (t : TypeId) : Option TypeId := match P.underlying t with
  | some (.map k e) => match P.underlying k with
    | some (.int _) => some e
    | _ => none
  | _ => none
theorem mapT_spec {t e : TypeId} (h : mapT P t = some e) : ∃ k kd, P.underlying t = some (.map k e) ∧ P.underlying k = some (.int kd) := by
  unfold mapT at h
  split at h
  · rename_i k e' hu
    split at h
    · rename_i kd hk
      simp only [Option.some.injEq] at h; subst h
      exact ⟨k, kd, hu, hk⟩
    · simp at h
  · simp at h

def findM (kk : IntKind) (n : Int) : List (AV × AV × Nat) → Nat → Option (Option (Nat × AV))
  | [], _ => some none
  | e :: l, i => match e.1 with
    | .int k' m => match decide (kk = k') with
      | true => match eqI n m with
        | true => some (some (i, e.2.1))
        | false => findM kk n l (Nat.succ i)
      | false => none
    | _ => none
theorem findM_spec {kd kk : IntKind} {n : Int} : ∀ {es : List (AV × AV × Nat)} {l : List MapEntry} {i : Nat} {r : Option (Nat × AV)}, entriesRel ρ es l → findM kk n es i = some r →
    Instr.findNow (.int kd) (.int kk n) l i = some (r.map fun p => (p.1, toV ρ p.2)) ∧ ∀ p, r = some p → okv ρ.d p.2
  | [], [], i, r, _, h => by
    simp only [findM, Option.some.injEq] at h; subst h
    exact ⟨rfl, fun p hp => by simp at hp⟩
  | (k, v, b) :: es, e :: l, i, r, ⟨hk, hv, he, hl⟩, h => by
    simp only [findM] at h
    cases k <;> try (simp at h; done)
    rename_i k' m
    simp only at h
    split at h
    · rename_i hkk
      have hkk : kk = k' := of_decide_eq_true hkk
      subst hkk
      split at h
      · rename_i hnm
        rw [eqI_eq, beq_iff_eq] at hnm
        subst hnm
        simp only [Option.some.injEq] at h; subst h
        refine ⟨?_, fun p hp => by cases hp; exact hv⟩
        subst he
        simp [Instr.findNow, Instr.sameNow, toV]
      · rename_i hnm
        rw [eqI_eq] at hnm
        obtain ⟨h1, h2⟩ := findM_spec (kd := kd) hl h
        refine ⟨?_, h2⟩
        subst he
        simp only [Instr.findNow, Instr.sameNow, toV, if_true, hnm]
        exact h1
    · simp at h
  | [], _ :: _, _, _, h, _ => h.elim
  | _ :: _, [], _, _, h, _ => h.elim

theorem run_findKey {k : TypeId} {kd kk : IntKind} {n : Int} {l : List MapEntry} {r : Option (Nat × Value)} (hk : P.underlying k = some (.int kd)) (h : Instr.findNow (.int kd) (.int kk n) l 0 = some r) :
    (Instr.findKey k (.int kk n) l).run P w = .ok r w := by
  simp [Instr.findKey, run_underlying hk, h]
theorem run_checkKeyS {k : TypeId} {kd kk : IntKind} {n : Int} {b : Bool} (d : Nat) (hk : P.underlying k = some (.int kd)) : (Instr.checkKey b (d + 1) k (.int kk n)).run P w = .ok () w := by
  simp only [Instr.checkKey, Sem.run_bind, run_underlying hk, Result.andThen_ok]
  rfl
theorem run_checkKey {k : TypeId} {kd kk : IntKind} {n : Int} {b : Bool} (hk : P.underlying k = some (.int kd)) : (Instr.checkKey b 10000 k (.int kk n)).run P w = .ok () w :=
  run_checkKeyS 9999 hk

theorem HRel.mapObj (H : HRel G w0 ρ h nx w) {b clock : Nat} {es : List (AV × AV × Nat)} (hd : ρ.d b) (hg : h.get b = some (.map es clock)) :
    ∃ l : Array MapEntry, w.heap[ρ.m b]? = some (.map l clock) ∧ entriesRel ρ es l.toList := by
  obtain ⟨x, hx, l, rfl, r⟩ := H.obj b _ (H.lt b hd) hg hd
  exact ⟨l, hx, r⟩

def missA (ok : Bool) (z : AV) : AV := match ok with
  | true => .tuple [z, .bool false]
  | false => z
noncomputable def fLookup (z : AV) (ok : Bool) (h : Hp) (x i : AV) : Option AV := match i with
  | .int kk n => match x with
    | .mnil => some (missA ok z)
    | .map b => match h.get b with
      | some (.map es _) => match findM kk n es 0 with
        | some (some p) => some (holdsA ok p.2)
        | some none => some (missA ok z)
        | none => none
      | _ => none
    | _ => none
  | _ => none
theorem lookup_sound (H : HRel G w0 ρ h nx w) {t e : TypeId} {z : AV} {ok : Bool} {x i r : AV} (ht : mapT P t = some e) (hz : zeroV P e = some z) (hx : okv ρ.d x) (hr : fLookup z ok h x i = some r) :
    (Instr.lookup t (toV ρ x) (toV ρ i) ok).run P w = .ok (toV ρ r) w ∧ okv ρ.d r := by
  obtain ⟨k, kd, hu, hk⟩ := mapT_spec ht
  obtain ⟨z1, z2⟩ := zeroV_sound hz ρ w
  have none_ : ∀ {s : AV}, s = missA ok z → (if ok then .tuple #[toV ρ z, .bool false] else toV ρ z : Value) = toV ρ s ∧ okv ρ.d s := by
    rintro s rfl
    cases ok
    · exact ⟨rfl, z2⟩
    · exact ⟨by simp [missA, toV, toVs], z2, trivial, trivial⟩
  cases i <;> try (simp [fLookup] at hr; done)
  rename_i kk n
  cases x <;> try (simp [fLookup] at hr; done)
  · simp only [fLookup, Option.some.injEq] at hr
    obtain ⟨h1, h2⟩ := none_ hr.symm
    refine ⟨?_, h2⟩
    rw [← h1]
    have hc := run_checkKey (P := P) (w := w) (kk := kk) (n := n) (b := true) hk
    have hf := run_findKey (P := P) (w := w) (kk := kk) (n := n) (l := []) (r := none) hk rfl
    simp [Instr.lookup, run_underlying hu, toV, hc, hf, z1]
  · rename_i b
    simp only [fLookup] at hr
    split at hr
    · rename_i es clock hg
      obtain ⟨l, hl, rel⟩ := H.mapObj hx hg
      have hgo : (getObj (ρ.m b)).run P w = .ok (.map l clock) w := by simp [getObj, Sem.run, hl]
      have hc := run_checkKey (P := P) (w := w) (kk := kk) (n := n) (b := l.isEmpty) hk
      split at hr
      · rename_i p hp
        simp only [Option.some.injEq] at hr; subst hr
        obtain ⟨f1, f2⟩ := findM_spec (kd := kd) rel hp
        have hf := run_findKey (P := P) (w := w) hk f1
        have hv := f2 p rfl
        refine ⟨?_, ?_⟩
        · cases ok <;> simp [Instr.lookup, run_underlying hu, toV, hgo, hc, hf, holdsA, toVs]
        · cases ok
          · exact hv
          · exact ⟨hv, trivial, trivial⟩
      · rename_i hp
        simp only [Option.some.injEq] at hr
        obtain ⟨f1, _⟩ := findM_spec (kd := kd) rel hp
        have hf := run_findKey (P := P) (w := w) hk f1
        obtain ⟨h1, h2⟩ := none_ hr.symm
        refine ⟨?_, h2⟩
        rw [← h1]
        simp [Instr.lookup, run_underlying hu, toV, hgo, hc, hf, z1]
      · simp at hr
    · simp at hr
end
end Go.Vai
