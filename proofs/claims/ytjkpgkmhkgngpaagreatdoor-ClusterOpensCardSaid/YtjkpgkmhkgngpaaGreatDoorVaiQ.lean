/- Operations made ready for the evaluator. -/
import Derived.Test.YtjkpgkmhkgngpaaGreatDoorVaiO
namespace Go.Vai
open Go.RowKit

inductive Ans where
  | ok
  | no (n : Nat)

abbrev KV := AV → Hp → Nat → Ans
abbrev Self := FuncId → List AV → Hp → Nat → KV → Ans

/-- an operation made ready -/
inductive OC where
  | pure (f : T → Option AV)
  | read (f : T → Hp → Option AV)
  | new (f : T → Option (AObj × NV))
  | eff (f : T → Hp → Nat → ER)
  | call (f : Self → T → Hp → Nat → KV → Ans)
  | defer (f : T → Option AV)
  | bad (n : Nat)

/-! ### operands -/
noncomputable def opnds (G N : Nat) : List Operand → Option (List (T → AV))
  | [] => some []
  | x :: l => match opnd G N x with
    | some f => match opnds G N l with
      | some r => some (f :: r)
      | none => none
    | none => none
def evs (fs : List (T → AV)) (t : T) : List AV := fs.map fun f => f t

section
variable {G : Nat} {w0 : Base} {ρ : Ren} {h : Hp} {nx : Nat} {w : World} {P : Program} {N : Nat} {t : T} {a : Act}

theorem opnds_sound (H : HRel G w0 ρ h nx w) (R : TRel ρ N t a.tmps) : ∀ {xs : List Operand} {fs : List (T → AV)}, opnds G N xs = some fs →
    okvs ρ.d (evs fs t) ∧ xs.map a.eval = (evs fs t).map (toV ρ)
  | [], fs, hx => by simp only [opnds, Option.some.injEq] at hx; subst hx; exact ⟨trivial, rfl⟩
  | x :: xs, fs, hx => by
    simp only [opnds] at hx
    split at hx
    · rename_i f hf
      split at hx
      · rename_i r hr
        simp only [Option.some.injEq] at hx; subst hx
        obtain ⟨h1, h2⟩ := opnd_sound H R hf
        obtain ⟨h3, h4⟩ := opnds_sound H R hr
        exact ⟨⟨h1, h3⟩, by simp only [List.map_cons, h2, h4, evs]⟩
      · simp at hx
    · simp at hx
end

/-! ### what a ready operation must do -/
def CallPost (G : Nat) (w0 : Base) (ρ : Ren) (h : Hp) (n : Nat) (k : KV) : Ending → World → Prop := fun e w' =>
  ∃ ρ' v h' n', e = .returned (toV ρ' v) ∧ okv ρ'.d v ∧ HRel G w0 ρ' h' n' w' ∧ Ext ρ h n ρ' h' n' ∧ k v h' n' = .ok

def SelfOK (P : Program) (G : Nat) (w0 : Base) (self : Self) : Prop := ∀ f args h n k ρ w, self f args h n k = .ok → HRel G w0 ρ h n w → okvs ρ.d args →
  Calls P f (args.map (toV ρ)).toArray w (CallPost G w0 ρ h n k)

/-- a deferred call, as a function value whose first arguments are all of them -/
def DRel (ρ : Ren) (v : AV) (d : Deferred) : Prop := ∃ fn xs cs, v = .func fn xs cs ∧ d = { target := .fn fn (cs.map (toV ρ)).toArray, args := (xs.map (toV ρ)).toArray } ∧ okv ρ.d v

def OpOK (P : Program) (G N : Nat) (o : Oper) : OC → Prop
  | .pure f => ∀ {w0 ρ h nx w t} {a : Act} {v}, HRel G w0 ρ h nx w → TRel ρ N t a.tmps → f t = some v → (execOp a.eval o).run P w = .ok (.value (toV ρ v)) w ∧ okv ρ.d v
  | .read f => ∀ {w0 ρ h nx w t} {a : Act} {v}, HRel G w0 ρ h nx w → TRel ρ N t a.tmps → f t h = some v → (execOp a.eval o).run P w = .ok (.value (toV ρ v)) w ∧ okv ρ.d v
  | .new f => ∀ {w0 ρ h nx w t} {a : Act} {ob nv}, HRel G w0 ρ h nx w → TRel ρ N t a.tmps → f t = some (ob, nv) →
      ∃ s : Sem Value, NewAt P ρ w s ob nv ∧ (execOp a.eval o).run P w = (s.run P w).andThen fun v w' => .ok (.value v) w'
  | .eff f => ∀ {w0 ρ h nx w t} {a : Act} {v h' nx'}, HRel G w0 ρ h nx w → TRel ρ N t a.tmps → f t h nx = .ok v h' nx' →
      ∃ ρ' w', ((execOp a.eval o).run P w = .ok (.value (toV ρ' v)) w' ∨ ((execOp a.eval o).run P w = .ok .skip w' ∧ v = undefA)) ∧
        okv ρ'.d v ∧ HRel G w0 ρ' h' nx' w' ∧ Ext ρ h nx ρ' h' nx'
  | .call f => ∀ {w0 ρ h nx w t} {a : Act} {self k}, SelfOK P G w0 self → HRel G w0 ρ h nx w → TRel ρ N t a.tmps → f self t h nx k = .ok →
      ∃ fid args, (execOp a.eval o).run P w = .ok (.enter fid args) w ∧ Calls P fid args w (CallPost G w0 ρ h nx k)
  | .defer f => ∀ {w0 ρ h nx w t} {a : Act} {v}, HRel G w0 ρ h nx w → TRel ρ N t a.tmps → f t = some v → ∃ d, (execOp a.eval o).run P w = .ok (.defer d) w ∧ DRel ρ v d
  | .bad _ => True

theorem run_v {P : Program} {w : World} (s : Sem Value) : ((do pure (.value (← s)) : Sem Next)).run P w = (s.run P w).andThen fun v w' => .ok (.value v) w' := by
  simp
theorem run_v_ok {P : Program} {w w' : World} {s : Sem Value} {v : Value} (h : s.run P w = .ok v w') : ((do pure (.value (← s)) : Sem Next)).run P w = .ok (.value v) w' := by
  rw [run_v, h]; rfl
theorem run_u_ok {P : Program} {w w' : World} {s : Sem Unit} (h : s.run P w = .ok () w') : ((do s; pure .skip : Sem Next)).run P w = .ok .skip w' := by
  simp [h]

section
variable (P : Program) (G N : Nat)

noncomputable def o1 (x : Operand) (k : (T → AV) → OC) : OC := match opnd G N x with | some f => k f | none => .bad 1
noncomputable def os (xs : List Operand) (k : List (T → AV) → OC) : OC := match opnds G N xs with | some f => k f | none => .bad 2
/-- an operand that need not be there -/
noncomputable def oo (x : Option Operand) (k : (T → Option AV) → OC) : OC :=
  match x with
  | none => k fun _ => none
  | some x => match opnd G N x with
    | some f => k fun t => some (f t)
    | none => .bad 3

variable {P G N}
theorem o1_ok {o : Oper} {x : Operand} {k : (T → AV) → OC} (hk : ∀ f, opnd G N x = some f → OpOK P G N o (k f)) : OpOK P G N o (o1 G N x k) := by
  unfold o1; split
  · exact hk _ ‹_›
  · trivial
theorem os_ok {o : Oper} {xs : List Operand} {k : List (T → AV) → OC} (hk : ∀ f, opnds G N xs = some f → OpOK P G N o (k f)) : OpOK P G N o (os G N xs k) := by
  unfold os; split
  · exact hk _ ‹_›
  · trivial
def OptOp (G N : Nat) (x : Option Operand) (f : T → Option AV) : Prop :=
  match x with
  | none => f = fun _ => none
  | some x => ∃ g, opnd G N x = some g ∧ f = fun t => some (g t)
theorem oo_ok {o : Oper} {x : Option Operand} {k : (T → Option AV) → OC} (hk : ∀ f, OptOp G N x f → OpOK P G N o (k f)) : OpOK P G N o (oo G N x k) := by
  unfold oo; split
  · exact hk _ rfl
  · split
    · exact hk _ ⟨_, ‹_›, rfl⟩
    · trivial
theorem optOp_sound {w0 ρ h nx w t} {a : Act} (H : HRel G w0 ρ h nx w) (R : TRel ρ N t a.tmps) {x : Option Operand} {f : T → Option AV} (hx : OptOp G N x f) :
    x.map a.eval = (f t).map (toV ρ) := by
  cases x with
  | none => rw [show f = fun _ => none from hx]; rfl
  | some x =>
    obtain ⟨g, h1, rfl⟩ := hx
    simp [(opnd_sound H R h1).2]
end

/-! ### small operations -/
def pickV (c a b : AV) : Option AV :=
  match c with
  | .bool true => some a
  | .bool false => some b
  | _ => none

/-- two values compared, or numbers and texts reckoned with -/
def binP0 (op : BinOp) (x y : AV) : Option AV :=
  match x with
  | .int k a => match y with
    | .int k' b => intI op k a k' b
    | .lint k' c l => linI op k a [] k' c l
    | _ => none
  | .str la na => match y with
    | .str lb nb => strI op la na lb nb
    | .lstr lb c l => strL op la (.ofNat na) [] lb c l
    | _ => none
  | .lint k c l => match y with
    | .int k' b => linI op k c l k' b []
    | .lint k' c' l' => linI op k c l k' c' l'
    | _ => none
  | .lstr la c l => match y with
    | .str lb nb => strL op la c l lb (.ofNat nb) []
    | .lstr lb c' l' => strL op la c l lb c' l'
    | _ => none
  | _ => none
def xorB (op : BinOp) : Bool := match op with
  | .xor => true
  | _ => false
def binP (op : BinOp) (x y : AV) : Option AV := match binP0 op x y with
  | some r => some r
  | none => match xorB op with
    | true => sxBin op x y
    | false => match enumV op x y with
      | some r => some r
      | none => sxBin op x y
/-- a number or a text whose value is not known -/
def symA (x : AV) : Bool := match x with
  | .lint _ _ _ => true
  | .lstr _ _ _ => true
  | .tab _ _ _ _ => true
  | .sx _ _ _ => true
  | .cond _ _ _ => true
  | _ => false
/-- may both be nil, or aggregates, here? -/
def guardA (cst gt : Bool) (x y : AV) : Bool :=
  match x with
  | .nilIface => match y with
    | .nilIface => cst
    | .cond _ _ _ => false
    | _ => true
  | .agg _ => match y with
    | .agg _ => not gt
    | .cond _ _ _ => false
    | _ => true
  | .cond _ _ _ => false
  | _ => true
noncomputable def binR (P : Program) (op : BinOp) (t : TypeId) (cst gt : Bool) (h : Hp) (x y : AV) : Option AV :=
  match and (guardA cst gt x y) (not (symA x)) with
  | false => none
  | true => match op with
    | .eql => match eqAt P h 10000 t x y with
      | some b => some (.bool b)
      | none => none
    | .neq => match eqAt P h 10000 t x y with
      | some b => some (.bool (not b))
      | none => none
    | _ => none
def isConst : Operand → Bool
  | .const _ => true
  | _ => false

section
variable {G : Nat} {w0 : Base} {ρ : Ren} {h : Hp} {nx : Nat} {w : World} {P : Program}

theorem binP0_sound {op : BinOp} {t : TypeId} {X Y : Operand} {x y r : AV} (hx : okv ρ.d x) (hy : okv ρ.d y) (hr : binP0 op x y = some r) :
    (do eqGuard op t X Y (toV ρ x) (toV ρ y); binOp op t (toV ρ x) (toV ρ y)).run P w = .ok (toV ρ r) w ∧ okv ρ.d r := by
  have hg : ∀ a b : Value, ((∃ k n, a = .int k n) ∨ ∃ s, a = .string s) → (eqGuard op t X Y a b).run P w = .ok () w := by
    rintro a b (⟨k, n, rfl⟩ | ⟨s, rfl⟩) <;> cases op <;> simp [eqGuard]
  have nums : ∀ (k k' : IntKind) (c c' : Int) (l l' : List LV), linI op k c l k' c' l' = some r →
      (do eqGuard op t X Y (.int k (linV ρ.s c l)) (.int k' (linV ρ.s c' l')); binOp op t (.int k (linV ρ.s c l)) (.int k' (linV ρ.s c' l'))).run P w = .ok (toV ρ r) w ∧ okv ρ.d r := by
    intro k k' c c' l l' h
    obtain ⟨⟨r0, h1, h2⟩, h3⟩ := linI_spec h ρ
    obtain ⟨h4, _⟩ := run_intI (P := P) ρ w op t _ _ _ _ _ h1
    refine ⟨?_, h3 _⟩
    rw [← h2]
    simp only [Sem.run_bind, hg _ _ (.inl ⟨_, _, rfl⟩), Result.andThen_ok, h4]
  have texts : ∀ (la lb : Nat) (c c' : Int) (l l' : List LV), strV x = some (la, c, l) → strV y = some (lb, c', l') → strL op la c l lb c' l' = some r →
      (do eqGuard op t X Y (toV ρ x) (toV ρ y); binOp op t (toV ρ x) (toV ρ y)).run P w = .ok (toV ρ r) w ∧ okv ρ.d r := by
    intro la lb c c' l l' ex ey h
    obtain ⟨x1, n, x2, x3⟩ := strV_spec ex ρ hx
    obtain ⟨y1, n', y2, y3⟩ := strV_spec ey ρ hy
    obtain ⟨⟨r0, h1, h2⟩, h3⟩ := strL_spec h ρ x2 y2
    obtain ⟨h4, _⟩ := run_strI (P := P) ρ w op t _ _ _ _ _ x3 y3 h1
    refine ⟨?_, h3 _⟩
    rw [← h2, x1, y1, x2, y2]
    simp only [Sem.run_bind, hg _ _ (.inr ⟨_, rfl⟩), Result.andThen_ok]
    exact h4
  cases x <;> try (simp [binP0] at hr; done)
  · cases y <;> try (simp [binP0] at hr; done)
    · obtain ⟨h1, h2⟩ := run_intI (P := P) ρ w op t _ _ _ _ _ hr
      refine ⟨?_, h2⟩
      simp only [toV, Sem.run_bind, hg _ _ (.inl ⟨_, _, rfl⟩), Result.andThen_ok, h1]
    · simp only [binP0] at hr; exact nums _ _ _ _ _ _ hr
  · cases y <;> try (simp [binP0] at hr; done)
    · obtain ⟨h1, h2⟩ := run_strI (P := P) ρ w op t _ _ _ _ _ hx hy hr
      refine ⟨?_, h2⟩
      simp only [toV, Sem.run_bind, hg _ _ (.inr ⟨_, rfl⟩), Result.andThen_ok, h1]
    · simp only [binP0] at hr; exact texts _ _ _ _ _ _ rfl rfl hr
  · cases y <;> try (simp [binP0] at hr; done)
    · simp only [binP0] at hr; exact nums _ _ _ _ _ _ hr
    · simp only [binP0] at hr; exact nums _ _ _ _ _ _ hr
  · cases y <;> try (simp [binP0] at hr; done)
    · simp only [binP0] at hr; exact texts _ _ _ _ _ _ rfl rfl hr
    · simp only [binP0] at hr; exact texts _ _ _ _ _ _ rfl rfl hr

theorem binP_sound {op : BinOp} {t : TypeId} {X Y : Operand} {x y r : AV} (hx : okv ρ.d x) (hy : okv ρ.d y) (hr : binP op x y = some r) :
    (do eqGuard op t X Y (toV ρ x) (toV ρ y); binOp op t (toV ρ x) (toV ρ y)).run P w = .ok (toV ρ r) w ∧ okv ρ.d r := by
  unfold binP at hr
  split at hr
  · rename_i r' hr'
    simp only [Option.some.injEq] at hr; subst hr
    exact binP0_sound hx hy hr'
  · have fin : ∀ {r0 : AV} {k k' : IntKind} {a b : Int}, toV ρ x = .int k a → toV ρ y = .int k' b → intI op k a k' b = some r0 → toV ρ r = toV ρ r0 →
        (do eqGuard op t X Y (toV ρ x) (toV ρ y); binOp op t (toV ρ x) (toV ρ y)).run P w = .ok (toV ρ r) w := by
      intro r0 k k' a b h1 h2 h3 h4
      obtain ⟨h6, _⟩ := run_intI (P := P) ρ w op t _ _ _ _ _ h3
      rw [h4, h1, h2]
      have hg : (eqGuard op t X Y (Value.int k a) (Value.int k' b)).run P w = .ok () w := by cases op <;> simp [eqGuard]
      simp only [Sem.run_bind, hg, Result.andThen_ok, h6]
    split at hr
    · obtain ⟨k, a, k', b, r0, h1, h2, h3, h4, h5⟩ := sxBin_spec hr ρ hx hy
      exact ⟨fin h1 h2 h3 h4, h5⟩
    split at hr
    · rename_i r' hr'
      simp only [Option.some.injEq] at hr; subst hr
      obtain ⟨k, a, k', b, r0, h1, h2, h3, h4, h5⟩ := enumV_spec (P := P) hr' ρ w t
      exact ⟨fin h1 h2 h3 h4, h5⟩
    · obtain ⟨k, a, k', b, r0, h1, h2, h3, h4, h5⟩ := sxBin_spec hr ρ hx hy
      exact ⟨fin h1 h2 h3 h4, h5⟩

theorem eqGuard_sound {op : BinOp} {t : TypeId} {X Y : Operand} {x y : AV} (hg : guardA (or (isConst X) (isConst Y)) (P.eqGuardType P.depth t) x y = true) :
    (eqGuard op t X Y (toV ρ x) (toV ρ y)).run P w = .ok () w := by
  unfold guardA at hg
  split at hg
  · split at hg
    · have : (∃ v, X = .const v) ∨ (∃ v, Y = .const v) := by
        rw [Bool.or_eq_true] at hg
        rcases hg with hg | hg
        · left; cases X <;> simp_all [isConst]
        · right; cases Y <;> simp_all [isConst]
      rcases this with ⟨v, rfl⟩ | ⟨v, rfl⟩ <;> cases op <;> simp [eqGuard, toV]
    · simp at hg
    · rename_i hne hnc
      cases y <;> first | exact absurd rfl hne | exact absurd rfl (hnc _ _ _) | (cases op <;> simp [eqGuard, toV])
  · split at hg
    · have hgt : P.eqGuardType P.depth t = false := by simpa using hg
      cases op <;> simp [eqGuard, toV, hgt]
    · simp at hg
    · rename_i hne hnc
      cases y <;> first | exact absurd rfl (hne _) | exact absurd rfl (hnc _ _ _) | (cases op <;> simp [eqGuard, toV])
  · simp at hg
  · rename_i h1 h2 h3
    cases x <;> first | exact absurd rfl h1 | exact absurd rfl (h2 _) | exact absurd rfl (h3 _ _ _) | (cases op <;> simp [eqGuard, toV])

theorem binR_sound (H : HRel G w0 ρ h nx w) {op : BinOp} {t : TypeId} {X Y : Operand} {x y r : AV} (hx : okv ρ.d x) (hy : okv ρ.d y)
    (hk : (∃ k n, x = .int k n) → False) (hs : (∃ l n, x = .str l n) → False)
    (hr : binR P op t (or (isConst X) (isConst Y)) (P.eqGuardType P.depth t) h x y = some r) :
    (do eqGuard op t X Y (toV ρ x) (toV ρ y); binOp op t (toV ρ x) (toV ρ y)).run P w = .ok (toV ρ r) w ∧ okv ρ.d r := by
  unfold binR at hr
  split at hr
  · simp at hr
  · rename_i hg
    simp only [Bool.and_eq_true, Bool.not_eq_true'] at hg
    have hns := hg.2
    have hg := eqGuard_sound (P := P) (w := w) (ρ := ρ) (op := op) hg.1
    have hb : ∀ b, (Op.equal t (toV ρ x) (toV ρ y)).run P w = .ok b w →
        (binOp .eql t (toV ρ x) (toV ρ y)).run P w = .ok (.bool b) w ∧ (binOp .neq t (toV ρ x) (toV ρ y)).run P w = .ok (.bool (!b)) w := by
      intro b hb
      cases x <;> first | exact absurd ⟨_, _, rfl⟩ hk | exact absurd ⟨_, _, rfl⟩ hs | (simp [symA] at hns; done) | (simp only [toV] at hb ⊢; simp only [binOp]; constructor <;> (try simp only [Sem.run_bind, hb, Result.andThen_ok, Sem.run_pure]) <;> (try (cases y <;> simp only [toV] at hb ⊢ <;> simp [hb])))
    split at hr
    · split at hr
      · rename_i b he
        simp only [Option.some.injEq] at hr; subst hr
        have := eqAt_sound (P := P) H 10000 t x y b hx hy he
        exact ⟨by simp only [Sem.run_bind, hg, Result.andThen_ok, (hb b this).1, toV], trivial⟩
      · simp at hr
    · split at hr
      · rename_i b he
        simp only [Option.some.injEq] at hr; subst hr
        have := eqAt_sound (P := P) H 10000 t x y b hx hy he
        exact ⟨by simp only [Sem.run_bind, hg, Result.andThen_ok, (hb b this).2, toV], trivial⟩
      · simp at hr
    · simp at hr
end
end Go.Vai
