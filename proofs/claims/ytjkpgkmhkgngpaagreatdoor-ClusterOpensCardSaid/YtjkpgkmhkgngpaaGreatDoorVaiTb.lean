/- Type assertions and maps made ready. -/
import Derived.Test.YtjkpgkmhkgngpaaGreatDoorVaiTa
import Derived.Test.YtjkpgkmhkgngpaaGreatDoorVaiR
namespace Go.Vai
open Go.RowKit

section
variable (P : Program) (G N : Nat)
noncomputable def cAssert (x : Operand) (ty : TypeId) (ok : Bool) : OC := o1 G N x fun f => .pure fun t => fAssert P ty ok (f t)
noncomputable def cLookup (ty : TypeId) (x i : Operand) (ok : Bool) : OC := match mapT P ty with
  | some e => match zeroV P e with
    | some z => o1 G N x fun fx => o1 G N i fun fi => .read fun t h => fLookup z ok h (fx t) (fi t)
    | none => .bad 150
  | none => .bad 151
noncomputable def putE (m k v : AV) (h : Hp) (n : Nat) : ER := match fMapPut G h m k v with
  | some h' => .ok undefA h' n
  | none => .no
noncomputable def cMapUpdate (ty : TypeId) (m k v : Operand) : OC := match mapT P ty with
  | some _ => o1 G N m fun fm => o1 G N k fun fk => o1 G N v fun fv => .eff fun t h n => putE G (fm t) (fk t) (fv t) h n
  | none => .bad 152
def cMakeMap (r : Option Operand) : OC := match r with
  | none => .new fun _ => some (.map [] 0, .mp)
  | some _ => .bad 153
noncomputable def delE (m k : AV) (h : Hp) (n : Nat) : ER := match fMapDel G h m k with
  | some h' => .ok undefA h' n
  | none => .no
noncomputable def cDelete (ty : TypeId) (m k : Operand) : OC := match mapT P ty with
  | some _ => o1 G N m fun fm => o1 G N k fun fk => .eff fun t h n => delE G (fm t) (fk t) h n
  | none => .bad 154
noncomputable def clearE (m : AV) (h : Hp) (n : Nat) : ER := match fMapClear G h m with
  | some h' => .ok undefA h' n
  | none => .no
noncomputable def slClearE (k : Nat) (zl : List AV) (m : AV) (h : Hp) (n : Nat) : ER := match fSlClear G k zl h m with
  | some h' => .ok undefA h' n
  | none => .no
noncomputable def cClear (ty : TypeId) (m : Operand) : OC := match mapT P ty with
  | some _ => o1 G N m fun fm => .eff fun t h n => clearE G (fm t) h n
  | none => match elemZ P ty with
    | some (_, k, _, zl) => o1 G N m fun fm => .eff fun t h n => slClearE G k zl (fm t) h n
    | none => .bad 155
noncomputable def cloneE (x : AV) (h : Hp) (n : Nat) : ER := match Nat.blt n 16777216 with
  | true => match fMapClone h n x with
    | some p => .ok p.1 p.2 (Nat.succ n)
    | none => .no
  | false => .no
end

section
variable {P : Program} {G N : Nat} {o : Oper}

theorem cAssert_ok {x : Operand} {xt ty : TypeId} {ok : Bool} (ho : o.op = .typeAssert x xt ty ok) : OpOK P G N o (cAssert P G N x ty ok) := by
  refine o1_ok fun f hf => ?_
  intro w0 ρ h nx w t a v H R hv
  obtain ⟨h1, h2⟩ := opnd_sound H R hf
  obtain ⟨h3, h4⟩ := assert_sound (P := P) (w := w) (xt := xt) h1 hv
  exact ⟨by simp only [execOp, ho, h2]; exact run_v_ok h3, h4⟩

theorem cLookup_ok {ty : TypeId} {x i : Operand} {ok : Bool} (ho : o.op = .lookup ty x i ok) : OpOK P G N o (cLookup P G N ty x i ok) := by
  unfold cLookup; split
  · rename_i e he
    split
    · rename_i z hz
      refine o1_ok fun fx hx => o1_ok fun fi hi => ?_
      intro w0 ρ h nx w t a v H R hv
      obtain ⟨h1, h2⟩ := opnd_sound H R hx
      obtain ⟨_, h4⟩ := opnd_sound H R hi
      obtain ⟨h5, h6⟩ := lookup_sound (P := P) H he hz h1 hv
      exact ⟨by simp only [execOp, ho, h2, h4]; exact run_v_ok h5, h6⟩
    · trivial
  · trivial

theorem cMapUpdate_ok {ty : TypeId} {m k v : Operand} (ho : o.op = .mapUpdate ty m k v) : OpOK P G N o (cMapUpdate P G N ty m k v) := by
  unfold cMapUpdate; split
  · rename_i e he
    refine o1_ok fun fm hm => o1_ok fun fk hk => o1_ok fun fv hv => ?_
    intro w0 ρ h nx w t a r h' nx' H R hr
    obtain ⟨m1, m2⟩ := opnd_sound H R hm
    obtain ⟨_, k2⟩ := opnd_sound H R hk
    obtain ⟨v1, v2⟩ := opnd_sound H R hv
    unfold putE at hr
    dsimp only at hr
    split at hr
    · rename_i h2 hp
      simp only [ER.ok.injEq] at hr
      obtain ⟨rfl, rfl, rfl⟩ := hr
      obtain ⟨w', r1, r2, r3⟩ := mapPut_sound H he m1 v1 hp
      refine ⟨ρ, w', .inr ⟨?_, rfl⟩, ⟨⟩, r2, r3⟩
      simp only [execOp, ho, m2, k2, v2]
      exact run_u_ok r1
    · simp at hr
  · trivial

theorem cMakeMap_ok {ty : TypeId} {r : Option Operand} (ho : o.op = .makeMap ty r) : OpOK P G N o (cMakeMap r) := by
  unfold cMakeMap; split
  · intro w0 ρ h nx w t a ob nv H R hv
    simp only [Option.some.injEq, Prod.mk.injEq] at hv
    obtain ⟨rfl, rfl⟩ := hv
    refine ⟨Instr.makeMap ty none, ⟨w.drawn, .map #[] 0, 0, ⟨#[], rfl, trivial⟩, ?_⟩, ?_⟩
    · simp [Instr.makeMap, nvV]
    · simp only [execOp, ho]
      exact run_v _
  · trivial

theorem cDelete_ok {ty kt : TypeId} {m k : Operand} (_ : o.op = .call { callee := .builtin .delete, args := #[m, k], argTypes := #[ty, kt] })
    (hb : ∀ (w : World) (a : Act), ∃ cs, (execOp a.eval o).run P w = (builtin .delete #[ty, kt] o.type cs (#[m, k].map a.eval)).run P w) : OpOK P G N o (cDelete P G N ty m k) := by
  unfold cDelete; split
  · rename_i e he
    refine o1_ok fun fm hm => o1_ok fun fk hk => ?_
    intro w0 ρ h nx w t a r h' nx' H R hr
    obtain ⟨m1, m2⟩ := opnd_sound H R hm
    obtain ⟨_, k2⟩ := opnd_sound H R hk
    unfold delE at hr
    dsimp only at hr
    split at hr
    · rename_i h2 hp
      simp only [ER.ok.injEq] at hr
      obtain ⟨rfl, rfl, rfl⟩ := hr
      obtain ⟨ρ', w', r1, r2, r3, r4⟩ := mapDel_sound (kt := kt) (ty := o.type) H he m1 hp
      obtain ⟨cs, hc⟩ := hb w a
      refine ⟨ρ', w', .inl ?_, r2, r3, r4⟩
      rw [hc]
      simp only [List.map_toArray, List.map_cons, List.map_nil, m2, k2, builtin]
      exact run_v_ok r1
    · simp at hr
  · trivial

theorem cClear_ok {ty : TypeId} {m : Operand} (_ : o.op = .call { callee := .builtin .clear, args := #[m], argTypes := #[ty] })
    (hb : ∀ (w : World) (a : Act), ∃ cs, (execOp a.eval o).run P w = (builtin .clear #[ty] o.type cs (#[m].map a.eval)).run P w) : OpOK P G N o (cClear P G N ty m) := by
  unfold cClear; split
  · rename_i e he
    refine o1_ok fun fm hm => ?_
    intro w0 ρ h nx w t a r h' nx' H R hr
    obtain ⟨m1, m2⟩ := opnd_sound H R hm
    unfold clearE at hr
    dsimp only at hr
    split at hr
    · rename_i h2 hp
      simp only [ER.ok.injEq] at hr
      obtain ⟨rfl, rfl, rfl⟩ := hr
      obtain ⟨ρ', w', r1, r2, r3, r4⟩ := mapClear_sound (ty := o.type) H he m1 hp
      obtain ⟨cs, hc⟩ := hb w a
      refine ⟨ρ', w', .inl ?_, r2, r3, r4⟩
      rw [hc]
      simp only [List.map_toArray, List.map_cons, List.map_nil, m2, builtin]
      exact run_v_ok r1
    · simp at hr
  · split
    · rename_i e k bytes zl he
      refine o1_ok fun fm hm => ?_
      intro w0 ρ h nx w t a r h' nx' H R hr
      obtain ⟨m1, m2⟩ := opnd_sound H R hm
      unfold slClearE at hr
      dsimp only at hr
      split at hr
      · rename_i h2 hp
        simp only [ER.ok.injEq] at hr
        obtain ⟨rfl, rfl, rfl⟩ := hr
        obtain ⟨ρ', w', r1, r2, r3, r4⟩ := slClear_sound (ty := o.type) H he m1 hp
        obtain ⟨cs, hc⟩ := hb w a
        refine ⟨ρ', w', .inl ?_, r2, r3, r4⟩
        rw [hc]
        simp only [List.map_toArray, List.map_cons, List.map_nil, m2, builtin]
        exact run_v_ok r1
      · simp at hr
    · trivial
end
end Go.Vai
