/- '==' -/
import Derived.Test.YtjkpgkmhkgngpaaGreatDoorVaiF
import Derived.Laws.StructEq
namespace Go.Vai
open Go.RowKit

section
variable {G : Nat} {w0 : Base} {ρ : Ren} {h : Hp} {nx : Nat} {w : World} {P : Program}

/-! ### parts of aggregates -/
def nthL {α : Type} : List α → Nat → Option α
  | [], _ => none
  | a :: _, 0 => some a
  | _ :: l, n + 1 => nthL l n
theorem nthL_eq {α : Type} : ∀ (l : List α) (n : Nat), nthL l n = l[n]?
  | [], _ => rfl
  | _ :: _, 0 => rfl
  | _ :: l, n + 1 => nthL_eq l n
def partA (agg : Bool) (k off : Nat) (cs : List AV) : Option AV :=
  match agg with
  | true => some (.agg ((cs.drop off).take k))
  | false => nthL cs off

theorem part_sound {t : TypeId} {agg : Bool} {k off : Nat} {cs : List AV} {r : AV} (ht : tInfo P t = some (agg, k)) (hc : okvs ρ.d cs) (hr : partA agg k off cs = some r) (w : World) :
    (part t (toVs ρ cs).toArray off).run P w = .ok (toV ρ r) w ∧ okv ρ.d r := by
  obtain ⟨h1, h2⟩ := tInfo_spec ht w
  cases agg with
  | true =>
    simp only [partA, Option.some.injEq] at hr; subst hr
    refine ⟨?_, okvs_take _ (okvs_drop _ hc)⟩
    simp only [part, Sem.run_bind, h1, h2, Result.andThen_ok, if_true, Sem.run_pure, toV, toVs_map]
    congr 2
    apply Array.ext'
    simp [List.extract]
  | false =>
    simp only [partA, nthL_eq] at hr
    refine ⟨?_, (okvs_iff _ _).1 hc r (List.mem_of_getElem? hr)⟩
    have : (toVs ρ cs).toArray[off]? = some (toV ρ r) := by simp [toVs_map, hr]
    simp only [part, Sem.run_bind, h1, Result.andThen_ok, Bool.false_eq_true, if_false, this, Sem.run_pure]

/-! ### pointers -/
noncomputable def plainBlock (h : Hp) (b : Nat) : Bool :=
  match h.get b with
  | some (.cells _ _ _ .none _) => true
  | _ => false
noncomputable def eqPtr (h : Hp) (b o b' o' : Nat) : Option Bool :=
  match Nat.beq b b' with
  | true => some (Nat.beq o o')
  | false => match and (plainBlock h b) (plainBlock h b') with
    | true => some false
    | false => none

theorem plain_spec (H : HRel G w0 ρ h nx w) {b : Nat} (hd : ρ.d b) (hp : plainBlock h b = true) :
    ∃ cs ty fr, h.get b ≠ none ∧ w.heap[ρ.m b]? = some (.cells cs ty fr) ∧ fr.1 = fr.2 := by
  unfold plainBlock at hp
  split at hp
  · rename_i c n ty opn hg
    obtain ⟨cs, fr, hx, _, _, hf, _⟩ := H.cells hd hg
    exact ⟨cs, ty, fr, by rw [hg]; simp, hx, hf⟩
  · simp at hp

theorem run_sameAddr_plain (w : World) {g g' o o' : Nat} {cs cs' : Array Value} {ty ty' : TypeId} {fr fr' : Nat × Nat} (hne : g ≠ g')
    (h1 : w.heap[g]? = some (.cells cs ty fr)) (h2 : w.heap[g']? = some (.cells cs' ty' fr')) (f1 : fr.1 = fr.2) (f2 : fr'.1 = fr'.2) :
    (sameAddr ⟨g, o, none⟩ ⟨g', o', none⟩).run P w = .ok false w := by
  have z1 : ∀ i, w.frozen? ⟨g, i, none⟩ = false := by
    intro i; obtain ⟨lo, hi⟩ := fr; simp only at f1; subst f1; simp only [World.frozen?, h1]; simp
  have z2 : ∀ i, w.frozen? ⟨g', i, none⟩ = false := by
    intro i; obtain ⟨lo, hi⟩ := fr'; simp only at f2; subst f2; simp only [World.frozen?, h2]; simp
  have s1 : w.shape? g = some (ty, cs.size) := by simp [World.shape?, h1]
  have s2 : w.shape? g' = some (ty', cs'.size) := by simp [World.shape?, h2]
  have hb : (g == g') = false := by simpa using hne
  simp [sameAddr, hb, z1, z2, noView, viewAt, s1, s2, mayBeOne, stringish]

theorem eqPtr_sound (H : HRel G w0 ρ h nx w) {b o b' o' : Nat} {r : Bool} (hb : ρ.d b) (hb' : ρ.d b') (hr : eqPtr h b o b' o' = some r) :
    (sameAddr ⟨ρ.m b, o, none⟩ ⟨ρ.m b', o', none⟩).run P w = .ok r w := by
  unfold eqPtr at hr
  split at hr
  · rename_i e
    rw [Nat.beq_eq] at e
    subst e
    simp only [Option.some.injEq] at hr; subst hr
    simp only [sameAddr, beq_self_eq_true, if_true, Sem.run_pure, beq_eq]
    congr 1
    rw [Bool.eq_iff_iff, beq_iff_eq]
    simp
  · rename_i e
    split at hr
    · rename_i hp
      simp only [Bool.and_eq_true] at hp
      simp only [Option.some.injEq] at hr; subst hr
      obtain ⟨cs, ty, fr, g1, x1, f1⟩ := plain_spec H hb hp.1
      obtain ⟨cs', ty', fr', g2, x2, f2⟩ := plain_spec H hb' hp.2
      refine run_sameAddr_plain w ?_ x1 x2 f1 f2
      intro em
      obtain ⟨p, hp1⟩ := Option.ne_none_iff_exists'.1 g1
      obtain ⟨q, hq1⟩ := Option.ne_none_iff_exists'.1 g2
      have := H.inj b b' p q (H.lt b hb) (H.lt b' hb') hp1 hq1 hb hb' em
      subst this
      rw [beq_eq, decide_eq_false_iff_not] at e
      exact e rfl
    · simp at hr

/-! ### equality at a type -/
def eqB : Bool → Bool → Bool
  | true, b => b
  | false, b => not b
theorem eqB_eq (a b : Bool) : eqB a b = (a == b) := by cases a <;> cases b <;> rfl

def eqFieldsA (P : Program) (eq : TypeId → AV → AV → Option Bool) (xs ys : List AV) : List Field → Option Bool
  | [] => some true
  | f :: fs => match decide (f.name = "_") with
    | true => eqFieldsA P eq xs ys fs
    | false => match tInfo P f.type with
      | none => none
      | some (agg, k) => match partA agg k f.offset xs with
        | none => none
        | some a => match partA agg k f.offset ys with
          | none => none
          | some b => match eq f.type a b with
            | some true => eqFieldsA P eq xs ys fs
            | some false => some false
            | none => none

def eqBoolV (x y : AV) : Option Bool :=
  match x with
  | .bool a => match y with
    | .bool b => some (eqB a b)
    | _ => none
  | _ => none
def eqIntV (x y : AV) : Option Bool :=
  match x with
  | .int k a => match y with
    | .int k' b => match decide (k = k') with
      | true => some (eqI a b)
      | false => none
    | .lint k' c l => match decide (k = k') with
      | true => eqN a [] c l
      | false => none
    | _ => none
  | .lint k c l => match y with
    | .int k' b => match decide (k = k') with
      | true => eqN c l b []
      | false => none
    | .lint k' c' l' => match decide (k = k') with
      | true => eqN c l c' l'
      | false => none
    | _ => none
  | _ => none
def eqStrV (x y : AV) : Option Bool :=
  match x with
  | .str la na => match y with
    | .str lb nb => some (and (Nat.beq la lb) (Nat.beq na nb))
    | .lstr lb c l => eqL la (.ofNat na) [] lb c l
    | _ => none
  | .lstr la c l => match y with
    | .str lb nb => eqL la c l lb (.ofNat nb) []
    | .lstr lb c' l' => eqL la c l lb c' l'
    | _ => none
  | _ => none
noncomputable def eqPtrV (P : Program) (h : Hp) (e : TypeId) (x y : AV) : Option Bool :=
  match x with
  | .nilp => match y with
    | .nilp => some true
    | .ptr _ _ => some false
    | _ => none
  | .ptr b o => match y with
    | .nilp => some false
    | .ptr b' o' => match tInfo P e with
      | some (_, _ + 1) => eqPtr h b o b' o'
      | _ => none
    | _ => none
  | _ => none
def eqIfV (P : Program) (eq : TypeId → AV → AV → Option Bool) (x y : AV) : Option Bool :=
  match x with
  | .nilIface => match y with
    | .nilIface => some true
    | .iface _ _ => some false
    | _ => none
  | .iface tx vx => match y with
    | .nilIface => some false
    | .iface ty vy => match Nat.beq tx ty with
      | false => some false
      | true => match P.info? tx with
        | none => none
        | some i => match i.comparable with
          | true => eq tx vx vy
          | false => none
    | _ => none
  | _ => none
def nilS : AV → Option Bool
  | .snil => some true
  | .slice _ _ _ _ _ | .edge _ _ _ => some false
  | _ => none
def eqSlV (x y : AV) : Option Bool :=
  match x with
  | .snil => nilS y
  | x => match y with
    | .snil => nilS x
    | _ => none
def eqMapV (x y : AV) : Option Bool :=
  match x with
  | .mnil => match y with
    | .mnil => some true
    | .map _ => some false
    | _ => none
  | .map _ => match y with
    | .mnil => some false
    | _ => none
  | _ => none
def eqFnV (x y : AV) : Option Bool :=
  match x with
  | .nilFunc => match y with
    | .nilFunc => some true
    | .func _ _ _ => some false
    | _ => none
  | .func _ _ _ => match y with
    | .nilFunc => some false
    | _ => none
  | _ => none
def eqStV (P : Program) (eq : TypeId → AV → AV → Option Bool) (t : TypeId) (fields : Array Field) (x y : AV) : Option Bool :=
  match x with
  | .agg xs => match y with
    | .agg ys => match P.stoodInHeld t with
      | true => none
      | false => eqFieldsA P eq xs ys fields.toList
    | _ => none
  | _ => none

noncomputable def eqAt (P : Program) (h : Hp) : Nat → TypeId → AV → AV → Option Bool
  | 0, _, _, _ => none
  | d + 1, t, x, y => match P.underlying t with
    | none => none
    | some ds => match ds with
      | .bool => eqBoolV x y
      | .int _ => eqIntV x y
      | .string => eqStrV x y
      | .pointer e => eqPtrV P h e x y
      | .interface _ => eqIfV P (eqAt P h d) x y
      | .slice _ => eqSlV x y
      | .map _ _ => eqMapV x y
      | .func _ _ _ => eqFnV x y
      | .struct fields => eqStV P (eqAt P h d) t fields x y
      | _ => none

theorem eqFields_sound (d : Nat) (eq : TypeId → AV → AV → Option Bool)
    (heq : ∀ t x y r, okv ρ.d x → okv ρ.d y → eq t x y = some r → (Op.equalIn d t (toV ρ x) (toV ρ y)).run P w = .ok r w)
    {xs ys : List AV} (hx : okvs ρ.d xs) (hy : okvs ρ.d ys) : ∀ (fs : List Field) (r : Bool), eqFieldsA P eq xs ys fs = some r →
    (Op.eqFields d (toVs ρ xs).toArray (toVs ρ ys).toArray fs).run P w = .ok r w
  | [], r, hr => by simp only [eqFieldsA, Option.some.injEq] at hr; subst hr; simp [Op.eqFields]
  | f :: fs, r, hr => by
    simp only [eqFieldsA] at hr
    split at hr
    · rename_i hn
      have hn := of_decide_eq_true hn
      simp only [Op.eqFields, ne_eq, hn, not_true_eq_false, if_false]
      exact eqFields_sound d eq heq hx hy fs r hr
    · rename_i hn
      have hn := of_decide_eq_false hn
      split at hr
      · simp at hr
      · rename_i agg k ht
        split at hr
        · simp at hr
        · rename_i a ha
          split at hr
          · simp at hr
          · rename_i b hb
            obtain ⟨pa, oa⟩ := part_sound ht hx ha w
            obtain ⟨pb, ob⟩ := part_sound ht hy hb w
            split at hr
            · rename_i e
              simp only [Op.eqFields, ne_eq, hn, not_false_eq_true, if_true, Sem.run_bind, pa, pb, Result.andThen_ok, heq _ _ _ _ oa ob e, Bool.not_true, Bool.false_eq_true, if_false]
              exact eqFields_sound d eq heq hx hy fs r hr
            · rename_i e
              simp only [Option.some.injEq] at hr; subst hr
              simp only [Op.eqFields, ne_eq, hn, not_false_eq_true, if_true, Sem.run_bind, pa, pb, Result.andThen_ok, heq _ _ _ _ oa ob e, Bool.not_false, Sem.run_pure]
            · simp at hr

set_option maxHeartbeats 4000000 in
theorem eqAt_sound (H : HRel G w0 ρ h nx w) : ∀ (d : Nat) (t : TypeId) (x y : AV) (r : Bool), okv ρ.d x → okv ρ.d y → eqAt P h d t x y = some r →
    (Op.equalIn d t (toV ρ x) (toV ρ y)).run P w = .ok r w
  | 0, _, _, _, _, _, _, hr => by simp [eqAt] at hr
  | d + 1, t, x, y, r, hx, hy, hr => by
    rw [eqAt] at hr
    cases hu : P.underlying t with
    | none => rw [hu] at hr; simp at hr
    | some ds =>
      rw [hu] at hr
      cases ds with
      | bool =>
        cases x <;> try (simp [eqBoolV] at hr; done)
        cases y <;> try (simp [eqBoolV] at hr; done)
        simp only [eqBoolV, Option.some.injEq] at hr; subst hr
        simp [Op.equalIn, run_underlying hu, toV, eqB_eq]
      | int _ =>
        cases x <;> try (simp [eqIntV] at hr; done)
        · cases y <;> try (simp [eqIntV] at hr; done)
          · simp only [eqIntV] at hr
            split at hr
            · rename_i hk
              have hk := of_decide_eq_true hk
              subst hk
              simp only [Option.some.injEq] at hr; subst hr
              simp [Op.equalIn, run_underlying hu, toV, eqI_eq]
            · simp at hr
          · simp only [eqIntV] at hr
            split at hr
            · rename_i hk
              have hk := of_decide_eq_true hk
              subst hk
              have := eqN_spec hr ρ.s
              rw [linV_nil] at this
              simp [Op.equalIn, run_underlying hu, toV, this]
            · simp at hr
        · cases y <;> try (simp [eqIntV] at hr; done)
          · simp only [eqIntV] at hr
            split at hr
            · rename_i hk
              have hk := of_decide_eq_true hk
              subst hk
              have := eqN_spec hr ρ.s
              rw [linV_nil] at this
              simp [Op.equalIn, run_underlying hu, toV, this]
            · simp at hr
          · simp only [eqIntV] at hr
            split at hr
            · rename_i hk
              have hk := of_decide_eq_true hk
              subst hk
              have := eqN_spec hr ρ.s
              simp [Op.equalIn, run_underlying hu, toV, this]
            · simp at hr
      | string =>
        have main : ∀ la c l lb c' l', strV x = some (la, c, l) → strV y = some (lb, c', l') → (∀ n n' : Nat, linV ρ.s c l = .ofNat n → linV ρ.s c' l' = .ofNat n' → r = and (Nat.beq la lb) (Nat.beq n n')) →
            (Op.equalIn (d + 1) t (toV ρ x) (toV ρ y)).run P w = .ok r w := by
          intro la c l lb c' l' ex ey hb
          obtain ⟨x1, n, x2, x3⟩ := strV_spec ex ρ hx
          obtain ⟨y1, n', y2, y3⟩ := strV_spec ey ρ hy
          rw [x1, y1, x2, y2, hb n n' x2 y2]
          show (Op.equalIn (d + 1) t (.string (strOf la n)) (.string (strOf lb n'))).run P w = _
          rw [run_equalIn_string w d t _ _ hu, strOf_toList, strOf_toList, str_eq x3 y3]
        cases x <;> try (simp [eqStrV] at hr; done)
        · cases y <;> try (simp [eqStrV] at hr; done)
          · simp only [eqStrV, Option.some.injEq] at hr; subst hr
            refine main _ _ _ _ _ _ rfl rfl fun n n' e e' => ?_
            have e : Int.ofNat _ = Int.ofNat n := e
            have e' : Int.ofNat _ = Int.ofNat n' := e'
            rw [Int.ofNat.inj e, Int.ofNat.inj e']
          · simp only [eqStrV] at hr
            exact main _ _ _ _ _ _ rfl rfl fun n n' e e' => eqL_spec hr ρ.s e e'
        · cases y <;> try (simp [eqStrV] at hr; done)
          · simp only [eqStrV] at hr
            exact main _ _ _ _ _ _ rfl rfl fun n n' e e' => eqL_spec hr ρ.s e e'
          · simp only [eqStrV] at hr
            exact main _ _ _ _ _ _ rfl rfl fun n n' e e' => eqL_spec hr ρ.s e e'
      | pointer e =>
        cases x <;> try (simp [eqPtrV] at hr; done)
        · cases y <;> try (simp [eqPtrV] at hr; done)
          all_goals simp only [eqPtrV, Option.some.injEq] at hr; subst hr; simp [Op.equalIn, run_underlying hu, toV]
        · cases y <;> try (simp [eqPtrV] at hr; done)
          · simp only [eqPtrV, Option.some.injEq] at hr; subst hr; simp [Op.equalIn, run_underlying hu, toV]
          · simp only [eqPtrV] at hr
            split at hr
            · rename_i ht
              obtain ⟨_, hs⟩ := tInfo_spec ht w
              have := eqPtr_sound (P := P) H hx hy hr
              simp only [Op.equalIn, toV, Sem.run_bind, run_underlying hu, Result.andThen_ok, hs]
              simp only [ne_eq, Nat.add_one_ne_zero, not_false_eq_true, if_true]
              exact this
            · simp at hr
      | interface ms =>
        cases x <;> try (simp [eqIfV] at hr; done)
        · rename_i tx vx
          cases y <;> try (simp [eqIfV] at hr; done)
          · rename_i ty vy
            simp only [eqIfV] at hr
            split at hr
            · rename_i e
              simp only [Option.some.injEq] at hr; subst hr
              rw [beq_eq, decide_eq_false_iff_not] at e
              simp [Op.equalIn, run_underlying hu, toV, e]
            · rename_i e
              rw [Nat.beq_eq] at e
              subst e
              split at hr
              · simp at hr
              · rename_i i hi
                split at hr
                · rename_i hc
                  have := eqAt_sound H d tx vx vy r hx hy hr
                  simp [Op.equalIn, run_underlying hu, toV, run_typeInfo _ hi, hc, this]
                · simp at hr
          · simp only [eqIfV, Option.some.injEq] at hr; subst hr; simp [Op.equalIn, run_underlying hu, toV]
        · cases y <;> try (simp [eqIfV] at hr; done)
          all_goals simp only [eqIfV, Option.some.injEq] at hr; subst hr; simp [Op.equalIn, run_underlying hu, toV]
      | slice _ =>
        cases x <;> try (cases y <;> simp [eqSlV, nilS] at hr; done)
        all_goals
          cases y <;> try (simp [eqSlV, nilS] at hr; done)
          all_goals simp only [eqSlV, nilS, Option.some.injEq] at hr; subst hr; simp [Op.equalIn, run_underlying hu, toV]
      | map _ _ =>
        cases x <;> try (simp [eqMapV] at hr; done)
        all_goals
          cases y <;> try (simp [eqMapV] at hr; done)
          all_goals simp only [eqMapV, Option.some.injEq] at hr; subst hr; simp [Op.equalIn, run_underlying hu, toV]
      | func _ _ _ =>
        cases x <;> try (simp [eqFnV] at hr; done)
        all_goals
          cases y <;> try (simp [eqFnV] at hr; done)
          all_goals simp only [eqFnV, Option.some.injEq] at hr; subst hr; simp [Op.equalIn, run_underlying hu, toV]
      | struct fields =>
        cases x <;> try (simp [eqStV] at hr; done)
        cases y <;> try (simp [eqStV] at hr; done)
        rename_i xs ys
        simp only [eqStV] at hr
        split at hr
        · simp at hr
        · rename_i hp
          have hf : P.fieldsOf t = fields := by simp [Program.fieldsOf, hu]
          have hu' : P.underlying t = some (.struct (P.fieldsOf t)) := by rw [hf]; exact hu
          rw [show toV ρ (.agg xs) = .agg (toVs ρ xs).toArray from rfl, show toV ρ (.agg ys) = .agg (toVs ρ ys).toArray from rfl, run_equalIn_struct w d t _ _ hu' hp, hf]
          exact eqFields_sound d _ (fun t x y r hx hy hr => eqAt_sound H d t x y r hx hy hr) hx hy fields.toList r hr
      | _ => simp at hr

end
end Go.Vai
