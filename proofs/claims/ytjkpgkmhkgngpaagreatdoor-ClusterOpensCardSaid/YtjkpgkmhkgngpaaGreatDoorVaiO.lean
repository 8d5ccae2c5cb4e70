/- Atomics, marks, overlaps; which function without a body is which. -/
import Derived.Test.YtjkpgkmhkgngpaaGreatDoorVaiN
namespace Go.Vai
open Go.RowKit

section
variable {G : Nat} {w0 : Base} {ρ : Ren} {h : Hp} {nx : Nat} {w : World} {P : Program}

noncomputable def fAtomLoad (k : IntKind) (h : Hp) (a : AV) : Option AV :=
  match a with
  | .ptr b o => match rdCells h b o 1 with
    | some (x :: _) => match x with
      | .int k' n => match decide (k = k') with
        | true => some (.int k' n)
        | false => none
      | _ => none
    | _ => none
  | _ => none
theorem read_cell (H : HRel G w0 ρ h nx w) {b o : Nat} {x : AV} {l : List AV} (hd : ρ.d b) (hr : rdCells h b o 1 = some (x :: l)) :
    w.cell? ⟨ρ.m b, o, none⟩ = some (toV ρ x) ∧ okv ρ.d x := by
  obtain ⟨h1, _, h3⟩ := rd_sound H hd hr
  have := h3 0 (toV ρ x) (by simp)
  rw [add_off, Nat.add_zero] at this
  exact ⟨this, h1.1⟩
theorem atomLoad_sound (H : HRel G w0 ρ h nx w) {k : IntKind} {a r : AV} (ha : okv ρ.d a) (hr : fAtomLoad k h a = some r) :
    (Extern.Atomic.loadT (.int k) #[toV ρ a]).run P w = .ok (toV ρ r) w ∧ okv ρ.d r := by
  cases a <;> try (simp [fAtomLoad] at hr; done)
  rename_i b o
  simp only [fAtomLoad] at hr
  split at hr
  · rename_i x l hl
    obtain ⟨h1, _⟩ := read_cell H ha hl
    cases x <;> try (simp at hr; done)
    simp only at hr
    split at hr
    · rename_i hk
      have hk := of_decide_eq_true hk
      subst hk
      simp only [Option.some.injEq] at hr; subst hr
      refine ⟨?_, trivial⟩
      show Sem.run P (Extern.Atomic.read (.int k) ⟨ρ.m b, o, none⟩) w = _
      simp only [Extern.Atomic.read, Sem.run_bind, run_load, h1, Result.andThen_ok, toV]
      simp
    · simp at hr
  · simp at hr

noncomputable def fAtomStore (G : Nat) (h : Hp) (a x : AV) : Option Hp :=
  match a with
  | .ptr b o => putCells G h b o [x]
  | _ => none
theorem put_cell (H : HRel G w0 ρ h nx w) {b o : Nat} {x : AV} {l : List AV} {h' : Hp} (hd : ρ.d b) (hp : putCells G h b o (x :: l) = some h') :
    ∃ u, w.cell? ⟨ρ.m b, o, none⟩ = some u := by
  unfold putCells at hp
  split at hp
  · rename_i c n ty fz opn hg
    split at hp
    · rename_i hb
      simp only [Bool.and_eq_true] at hb
      have hn : o + (x :: l).length ≤ n := Nat.le_of_ble_eq_true hb.2.1
      rw [List.length_cons] at hn
      obtain ⟨cs, fr, hx, k1, _⟩ := H.cells hd hg
      have hlt : o < cs.size := by omega
      exact ⟨cs[o], by rw [cell_of_row w _ _ cs ty fr hx]; simp [hlt]⟩
    · simp at hp
  · simp at hp
theorem storeCells_one {a : Addr} {v : Value} {w' : World} {m : Mode} (hc : ∃ u, w.cell? a = some u) (hr : (storeCells a [v] 0).run P w = .ok () w') : (store a v m).run P w = .ok () w' := by
  have e : a.add 0 = a := rfl
  obtain ⟨u, hu⟩ := hc
  simp only [storeCells, Sem.run_bind, e] at hr
  have : ∀ m, (store a v m).run P w = (store a v).run P w := by
    intro m
    unfold store
    cases v <;> simp [Sem.run, hu]
  rw [this m]
  generalize (store a v).run P w = q at hr
  cases q with
  | ok u w1 => simpa [Result.andThen] using hr
  | halt x w1 => simp [Result.andThen] at hr
theorem atomStore_sound (H : HRel G w0 ρ h nx w) {a x : AV} {h' : Hp} (ha : okv ρ.d a) (hx : okv ρ.d x) (hr : fAtomStore G h a x = some h') :
    EffAt P G w0 ρ h nx w (Extern.Atomic.storeT #[toV ρ a, toV ρ x]) undefA h' nx := by
  cases a <;> try (simp [fAtomStore] at hr; done)
  rename_i b o
  obtain ⟨w', q1, q2, q3⟩ := put_sound (P := P) H ha (l := [x]) ⟨hx, trivial⟩ hr
  refine ⟨ρ, w', ?_, trivial, q2, q3⟩
  have := storeCells_one (m := .atomic) (put_cell H ha hr) q1
  show Sem.run P (do store ⟨ρ.m b, o, none⟩ (toV ρ x) .atomic; pure Extern.Atomic.none_) w = _
  simp only [Sem.run_bind, this, Result.andThen_ok, Sem.run_pure]
  rfl

noncomputable def fCas (G : Nat) (k : IntKind) (h : Hp) (a old new : AV) : Option (Bool × Hp) :=
  match fAtomLoad k h a with
  | some (.int _ x) => match old with
    | .int _ y => match a with
      | .ptr b o => match plainBlock h b with
        | true => match eqI x y with
          | true => match putCells G h b o [new] with
            | some h' => some (true, h')
            | none => none
          | false => some (false, h)
        | false => none
      | _ => none
    | _ => none
  | _ => none
theorem cas_sound (H : HRel G w0 ρ h nx w) {k : IntKind} {a old new : AV} {r : Bool} {h' : Hp} (ha : okv ρ.d a) (hn : okv ρ.d new) (hr : fCas G k h a old new = some (r, h')) :
    EffAt P G w0 ρ h nx w (Extern.Atomic.casT (.int k) #[toV ρ a, toV ρ old, toV ρ new]) (.bool r) h' nx := by
  unfold fCas at hr
  split at hr
  · rename_i k' x hl
    obtain ⟨r1, _⟩ := atomLoad_sound (P := P) H ha hl
    split at hr
    · rename_i ky y
      split at hr
      · rename_i b o
        split at hr
        · rename_i hp
          obtain ⟨cs, ty, fr, _, hx, hf⟩ := plain_spec H ha hp
          have hfz : (Extern.Atomic.touchesFrozen ⟨ρ.m b, o, none⟩).run P w = .ok false w := by
            have sh : w.shape? (ρ.m b) = some (ty, cs.size) := by simp [World.shape?, hx]
            have z1 : w.frozen? ⟨ρ.m b, o, none⟩ = false := by
              obtain ⟨lo, hi⟩ := fr; simp only at hf; subst hf; simp only [World.frozen?, hx]; simp
            simp [Extern.Atomic.touchesFrozen, viewAt, sh, z1]
          have hrd : (Extern.Atomic.read (.int k) ⟨ρ.m b, o, none⟩).run P w = .ok (.int k' x) w := r1
          have key : ∀ (s : Sem Value), (Extern.Atomic.casT (.int k) #[toV ρ (.ptr b o), toV ρ (.int ky y), toV ρ new]).run P w =
              (if (x == y) = true then ((store ⟨ρ.m b, o, none⟩ (toV ρ new) .atomic).run P w).andThen fun _ w' => .ok (.bool true) w' else .ok (.bool false) w) := by
            intro _
            show Sem.run P ((do
              let a ← asAddr (.pointer (some ⟨ρ.m b, o, none⟩))
              if ← Extern.Atomic.touchesFrozen a then unsupported (.unsafePointer "a write to bytes that a string shares")
              let eq ← match Extern.Atomic.T.int k, ← Extern.Atomic.read (.int k) a, Value.int ky y with
                | _, .int _ x, .int _ y => pure (x == y)
                | .ptr, .pointer x, .pointer y => samePointer x y
                | .int _, .pointer (some _), .int _ 0 | .int _, .int _ 0, .pointer (some _) => pure false
                | .int _, .pointer (some _), _ | .int _, _, .pointer (some _) => unsupported .addressObserved
                | _, _, _ => stuck "atomic.CompareAndSwap: old is no T"
              if eq then store a (toV ρ new) .atomic
              pure (Value.bool eq)) : Sem Value) w = _
            simp only [asAddr, Sem.run_bind, Sem.run_pure, Result.andThen_ok, hfz, hrd, Bool.false_eq_true, if_false]
            by_cases he : (x == y) = true
            · simp only [he, if_true, Sem.run_bind, Sem.run_pure]
            · simp only [he]; simp
          have key := key (pure (.bool true))
          rw [← eqI_eq] at key
          split at hr
          · rename_i he
            split at hr
            · rename_i hq hput
              simp only [Option.some.injEq, Prod.mk.injEq] at hr
              obtain ⟨rfl, rfl⟩ := hr
              obtain ⟨w', q1, q2, q3⟩ := put_sound (P := P) H ha (l := [new]) ⟨hn, trivial⟩ hput
              refine ⟨ρ, w', ?_, trivial, q2, q3⟩
              rw [key, he, if_pos rfl, storeCells_one (m := .atomic) (put_cell H ha hput) q1]
              rfl
            · simp at hr
          · rename_i he
            simp only [Option.some.injEq, Prod.mk.injEq] at hr
            obtain ⟨rfl, rfl⟩ := hr
            refine ⟨ρ, w, ?_, trivial, H, Ext.refl _ _ _⟩
            rw [key, he]
            rfl
        · simp at hr
      · simp at hr
    · simp at hr
  · simp at hr

noncomputable def fAtomAdd (G : Nat) (k : IntKind) (h : Hp) (a y : AV) : Option (AV × Hp) :=
  match fAtomLoad k h a with
  | some (.int _ x) => match y with
    | .int _ y => match arithI .add k x y with
      | some r => match a with
        | .ptr b o => match putCells G h b o [.int k r] with
          | some h' => some (.int k r, h')
          | none => none
        | _ => none
      | none => none
    | _ => none
  | _ => none
theorem atomAdd_sound (H : HRel G w0 ρ h nx w) {k : IntKind} {a y r : AV} {h' : Hp} (ha : okv ρ.d a) (hr : fAtomAdd G k h a y = some (r, h')) :
    EffAt P G w0 ρ h nx w (Extern.Atomic.update (Op.intArith .add) k true #[toV ρ a, toV ρ y]) r h' nx := by
  unfold fAtomAdd at hr
  split at hr
  · rename_i k' x hl
    obtain ⟨r1, _⟩ := atomLoad_sound (P := P) H ha hl
    split at hr
    · rename_i ky y
      split at hr
      · rename_i q hq
        split at hr
        · rename_i b o
          split at hr
          · rename_i hp hput
            simp only [Option.some.injEq, Prod.mk.injEq] at hr
            obtain ⟨rfl, rfl⟩ := hr
            obtain ⟨w', q1, q2, q3⟩ := put_sound (P := P) H ha (l := [.int k q]) ⟨trivial, trivial⟩ hput
            refine ⟨ρ, w', ?_, trivial, q2, q3⟩
            have hrd : (Extern.Atomic.read (.int k) ⟨ρ.m b, o, none⟩).run P w = .ok (.int k' x) w := r1
            have ha' := ha
            have ha := run_arith (P := P) w _ _ _ _ _ hq
            show Sem.run P (do
              let a ← asAddr (.pointer (some ⟨ρ.m b, o, none⟩))
              let old ← Extern.Atomic.read (.int k) a
              let new ← Op.intArith .add k (← asInt old) (← asInt (.int ky y))
              store a new .atomic
              pure (if true = true then new else old)) w = _
            simp only [asAddr, Sem.run_bind, Sem.run_pure, Result.andThen_ok, hrd, asInt, asIntOf, ha]
            have q1' : Sem.run P (storeCells ⟨ρ.m b, o, none⟩ [Value.int k q] 0) w = .ok () w' := q1
            rw [storeCells_one (m := .atomic) (put_cell H ha' hput) q1']
            simp [toV]
          · simp at hr
        · simp at hr
      · simp at hr
    · simp at hr
  · simp at hr

/-! ### marks -/
def fMarked (a : AV) : Option AV :=
  match a with
  | .ptr _ _ => some undefA
  | _ => none
theorem marked_sound {m : Addr → Mark} {a r : AV} (hr : fMarked a = some r) : (Extern.Race.marked m #[toV ρ a]).run P w = .ok (toV ρ r) w ∧ okv ρ.d r := by
  cases a <;> simp [fMarked] at hr
  subst hr
  exact ⟨by simp [Extern.Race.marked, Extern.Race.at_, toV, undefA, toVs, Extern.Race.none_], trivial⟩

/-! ### overlaps -/
noncomputable def fOverlaps (k : Nat) (h : Hp) (x y : AV) : Option Bool :=
  match x with
  | .snil => match y with
    | .snil => some false
    | .slice _ _ _ _ _ => some false
    | _ => none
  | .slice b o l _ _ => match y with
    | .snil => some false
    | .slice b' o' l' _ _ => match or (Nat.beq l 0) (Nat.beq l' 0) with
      | true => some false
      | false => match Nat.beq b b' with
        | true => some (and (Nat.blt o (Nat.add o' (Nat.mul l' k))) (Nat.blt o' (Nat.add o (Nat.mul l k))))
        | false => match and (plainBlock h b) (plainBlock h b') with
          | true => some false
          | false => none
    | _ => none
  | _ => none
theorem overlaps_sound (H : HRel G w0 ρ h nx w) {params results : Array TypeId} {t e : TypeId} {i : TypeInfo} {x y : AV} {r : Bool} (hp : params[0]? = some t) (hu : P.underlying t = some (.slice e))
    (hi : P.info? e = some i) (hk : i.size ≠ 0) (hx : okv ρ.d x) (hy : okv ρ.d y) (hr : fOverlaps i.size h x y = some r) :
    (Extern.SlicesOverlaps.overlaps params results #[toV ρ x, toV ρ y]).run P w = .ok (.bool r) w := by
  have key : ∀ (a b : Option Addr) (la ca lb cb : Nat), Extern.SlicesOverlaps.overlaps params results #[.slice a la ca, .slice b lb cb] = (do
    let some t := params[0]? | stuck "slices.overlaps: no parameter types"
    let .slice elem ← underlying t | stuck "slices.overlaps: slice type expected"
    let size ← sizeOf elem
    match a, b with
    | some a, some b =>
      if la = 0 ∨ lb = 0 ∨ size = 0 then pure (.bool false)
      else if a.block != b.block && (← frozen a) && (← frozen b) then unsupported .addressObserved
      else do
        if a.block != b.block then do
          noView a; noView b
          if ← mayBeOne a b then return .bool ((← choose (.extern "sameAddr.stringBytes" 2)) == 1)
        pure (.bool (a.block == b.block && a.off < b.off + lb * size && b.off < a.off + la * size))
    | _, _ => pure (.bool false)) := fun _ _ _ _ _ _ => rfl
  cases x <;> try (simp [fOverlaps] at hr; done)
  · cases y <;> try (simp [fOverlaps] at hr; done)
    all_goals
      simp only [fOverlaps, Option.some.injEq] at hr; subst hr
      simp only [toV, key]
      simp [hp, run_underlying hu, sizeOf, run_typeInfo _ hi]
  · rename_i b o l c p
    cases y <;> try (simp [fOverlaps] at hr; done)
    · simp only [fOverlaps, Option.some.injEq] at hr; subst hr
      simp only [toV, key]
      simp [hp, run_underlying hu, sizeOf, run_typeInfo _ hi]
    · rename_i b' o' l' c' p'
      simp only [fOverlaps] at hr
      simp only [toV, key]
      split at hr
      · rename_i hz
        simp only [Option.some.injEq] at hr; subst hr
        simp only [Bool.or_eq_true, Nat.beq_eq] at hz
        have hz' : l = 0 ∨ l' = 0 ∨ i.size = 0 := by rcases hz with h | h; exact .inl h; exact .inr (.inl h)
        simp [hp, run_underlying hu, sizeOf, run_typeInfo _ hi, hz']
      · rename_i hz
        simp only [beq_eq, Bool.or_eq_false_iff, decide_eq_false_iff_not] at hz
        have hz' : ¬ (l = 0 ∨ l' = 0 ∨ i.size = 0) := by omega
        split at hr
        · rename_i e
          rw [Nat.beq_eq] at e
          subst e
          simp only [Option.some.injEq] at hr; subst hr
          simp [hp, run_underlying hu, sizeOf, run_typeInfo _ hi, hz', blt_eq]
        · rename_i e
          split at hr
          · rename_i hpl
            simp only [Bool.and_eq_true] at hpl
            simp only [Option.some.injEq] at hr; subst hr
            obtain ⟨cs, ty, fr, g1, x1, f1⟩ := plain_spec H hx hpl.1
            obtain ⟨cs', ty', fr', g2, x2, f2⟩ := plain_spec H hy hpl.2
            have hne : ρ.m b ≠ ρ.m b' := by
              intro em
              obtain ⟨p1, hp1⟩ := Option.ne_none_iff_exists'.1 g1
              obtain ⟨q1, hq1⟩ := Option.ne_none_iff_exists'.1 g2
              have := H.inj b b' p1 q1 (H.lt b hx) (H.lt b' hy) hp1 hq1 hx hy em
              subst this
              rw [beq_eq, decide_eq_false_iff_not] at e
              exact e rfl
            have z1 : ∀ j, w.frozen? ⟨ρ.m b, j, none⟩ = false := by
              intro j; obtain ⟨lo, hi⟩ := fr; simp only at f1; subst f1; simp only [World.frozen?, x1]; simp
            have z2 : ∀ j, w.frozen? ⟨ρ.m b', j, none⟩ = false := by
              intro j; obtain ⟨lo, hi⟩ := fr'; simp only at f2; subst f2; simp only [World.frozen?, x2]; simp
            have s1 : w.shape? (ρ.m b) = some (ty, cs.size) := by simp [World.shape?, x1]
            have s2 : w.shape? (ρ.m b') = some (ty', cs'.size) := by simp [World.shape?, x2]
            have hb : (ρ.m b == ρ.m b') = false := by simpa using hne
            have hb2 : (ρ.m b != ρ.m b') = true := by simp [bne, hb]
            simp [hp, run_underlying hu, sizeOf, run_typeInfo _ hi, hz', hb, hb2, z1, z2, noView, viewAt, s1, s2, mayBeOne, stringish]
          · simp at hr

end
end Go.Vai
