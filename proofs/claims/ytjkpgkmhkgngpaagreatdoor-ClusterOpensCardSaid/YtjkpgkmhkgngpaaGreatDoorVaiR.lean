/- Each operation made ready, and that it does what it must. -/
import Derived.Test.YtjkpgkmhkgngpaaGreatDoorVaiQ
namespace Go.Vai
open Go.RowKit

/-! ### the address of a field that takes no room -/
def fieldZero (P : Program) (s : TypeId) (f : Nat) : Bool := match fieldOf P s f with
  | some fd => match P.info? fd.type with
    | some i => and (Nat.beq i.size 0) (and (Nat.beq fd.offset 0) (Nat.beq fd.byteOffset 0))
    | none => false
  | none => false
noncomputable def fZeroField (P : Program) (h : Hp) (v : AV) : Option AV := match v with
  | .ptr b o => match h.get b with
    | some (.cells _ _ ty .none _) => match Nat.beq (P.cellsOf ty) 0 with
      | true => some (.ptr b o)
      | false => match byteOfCell P P.depth ty (Nat.mod o (P.cellsOf ty)) with
        | some _ => some (.ptr b o)
        | none => none
    | _ => none
  | _ => none
theorem zeroField_sound {P : Program} {G : Nat} {w0 : Base} {ρ : Ren} {h : Hp} {nx : Nat} {w : World} (H : HRel G w0 ρ h nx w) {s : TypeId} {f : Nat} {v r : AV} (hf : fieldZero P s f = true) (hv : okv ρ.d v)
    (hr : fZeroField P h v = some r) : (Instr.fieldAt s (toV ρ v) f).run P w = .ok (toV ρ r) w ∧ okv ρ.d r := by
  unfold fieldZero at hf
  split at hf
  · rename_i fd hfd
    split at hf
    · rename_i i hi
      simp only [Bool.and_eq_true, Nat.beq_eq] at hf
      obtain ⟨z1, z2, z3⟩ := hf
      obtain ⟨fs, hu, hfs⟩ := fieldOf_spec hfd
      cases v <;> try (simp [fZeroField] at hr; done)
      rename_i b o
      simp only [fZeroField] at hr
      split at hr
      · rename_i c n ty opn hg
        have main : (P.cellsOf ty = 0 ∨ ∃ cell, byteOfCell P P.depth ty (o % P.cellsOf ty) = some cell) → r = .ptr b o → (Instr.fieldAt s (toV ρ (.ptr b o)) f).run P w = .ok (toV ρ r) w ∧ okv ρ.d r := by
          rintro hc rfl
          refine ⟨?_, hv⟩
          obtain ⟨cs, fr, hx, _, _, hfz, _⟩ := H.cells hv hg
          have hfz : fr.1 = fr.2 := hfz
          have z : ∀ i, w.frozen? ⟨ρ.m b, i, none⟩ = false := by
            intro i; obtain ⟨lo, hi⟩ := fr; simp only at hfz; subst hfz; simp only [World.frozen?, hx]; simp
          have sh : w.shape? (ρ.m b) = some (ty, cs.size) := by simp [World.shape?, hx]
          have hb : ∃ B, (byteOf ⟨ρ.m b, o, none⟩).run P w = .ok B w := by
            by_cases e : P.cellsOf ty = 0
            · exact ⟨0, by simp [byteOf, noView, viewAt, sh, e]⟩
            · obtain ⟨cell, hc⟩ := hc.resolve_left e
              exact ⟨_, by simp [byteOf, noView, viewAt, sh, e, hc]; rfl⟩
          obtain ⟨B, hb⟩ := hb
          simp [Instr.fieldAt, run_underlying hu, hfs, Instr.sureAddr, toV, fieldPlace, sizeOf, run_typeInfo _ hi, z1, z2, z3, partAt, hb]
        split at hr
        · rename_i e
          rw [Nat.beq_eq] at e
          simp only [Option.some.injEq] at hr
          exact main (.inl e) hr.symm
        · split at hr
          · rename_i cell hc
            simp only [Option.some.injEq] at hr
            exact main (.inr ⟨cell, hc⟩) hr.symm
          · simp at hr
      · simp at hr
    · simp at hf
  · simp at hf

section
variable (P : Program) (G N : Nat)

noncomputable def cMove (x : Operand) : OC := o1 G N x fun f => .pure fun t => some (f t)
noncomputable def cPick (c a b : Operand) : OC := o1 G N c fun fc => o1 G N a fun fa => o1 G N b fun fb => .pure fun t => pickV (fc t) (fa t) (fb t)
noncomputable def cAlloc (ty : TypeId) : OC := match zeroA P ty with
  | some l => match rowObj l ty .none 0 with
    | some ob => .new fun _ => some (ob, .ptr)
    | none => .bad 10
  | none => .bad 11
noncomputable def boxV (ty : TypeId) (v : AV) : Option (AObj × NV) := match rowObj (cellsA v) ty .none 0 with
  | some ob => some (ob, .ptr)
  | none => none
noncomputable def cBox (ty : TypeId) (x : Operand) : OC := o1 G N x fun f => .new fun t => boxV ty (f t)
noncomputable def cLoad (ty : TypeId) (x : Operand) : OC := match tInfo P ty with
  | some (agg, k) => o1 G N x fun f => .read fun t h => fLoad agg k h (f t)
  | none => .bad 12
noncomputable def storeE (k : Nat) (a x : AV) (h : Hp) (n : Nat) : ER := match fStore G k h a x with
  | some h' => .ok undefA h' n
  | none => .no
noncomputable def cStore (ty : TypeId) (a x : Operand) : OC := match P.info? ty with
  | some i => o1 G N a fun fa => o1 G N x fun fx => .eff fun t h n => storeE G i.size (fa t) (fx t) h n
  | none => .bad 13
noncomputable def cNilCheck (x : Operand) : OC := o1 G N x fun f => .pure fun t => fNilCheck (f t)
/-- are values of the type compared and reckoned with without memory? -/
def plainType (P : Program) (ty : TypeId) : Bool := match P.underlying ty with
  | some (.int _) => true
  | some .string => true
  | _ => false
noncomputable def eqR (op : BinOp) (ty : TypeId) (cst gt : Bool) (h : Hp) (x y : AV) : Option AV :=
  match x with
  | .int _ _ => none
  | .str _ _ => none
  | x => binR P op ty cst gt h x y
noncomputable def cBin (op : BinOp) (ty : TypeId) (x y : Operand) : OC := o1 G N x fun fx => o1 G N y fun fy => match plainType P ty with
  | true => .pure fun t => binP op (fx t) (fy t)
  | false => .read fun t h => eqR P op ty (or (isConst x) (isConst y)) (P.eqGuardType P.depth ty) h (fx t) (fy t)
noncomputable def cUn (op : UnOp) (x : Operand) : OC := o1 G N x fun f => .pure fun t => fUnary op (f t)
noncomputable def cConv (src dst : TypeId) (x : Operand) : OC := o1 G N x fun f => match P.underlying src with
  | none => .bad 14
  | some ds => match P.underlying dst with
    | none => .bad 15
    | some dd => match dd with
      | .int k => .pure fun t => fConvInt k (f t)
      | .string => match ds with
        | .string => .pure fun t => fConvStr (f t)
        | .slice e => match P.underlying e with
          | some (.int .u8) => .read fun t h => fConvBytesStr h (f t)
          | _ => .bad 16
        | _ => .bad 17
      | .slice e => match ds with
        | .string => match P.underlying e with
          | some (.int .u8) => .new fun t => fStrBytes e (f t)
          | _ => .bad 18
        | _ => .bad 19
      | .unsafePointer => match ds with
        | .pointer e => match P.info? e with
          | some i => match Nat.beq i.size 0 with
            | false => .read fun t h => fToUnsafe h (f t)
            | true => .bad 20
          | none => .bad 21
        | _ => .bad 22
      | .pointer u => match ds with
        | .unsafePointer => match P.info? u with
          | some _ => .read fun t h => fFromUnsafe P u h (f t)
          | none => .bad 23
        | _ => .bad 24
      | _ => .bad 25
noncomputable def cMakeIface (ty : TypeId) (x : Operand) : OC := match concrete P ty with
  | true => o1 G N x fun f => .pure fun t => fMakeIface ty (f t)
  | false => .bad 26
noncomputable def cMakeFunc (fn : Fn) (first captured : List Operand) : OC := os G N first fun ff => os G N captured fun fc => .pure fun t => some (.func fn (evs ff t) (evs fc t))
noncomputable def cMakeSlice (ty : TypeId) (l c : Operand) : OC := match elemZ P ty with
  | some (e, k, bytes, zl) => match Nat.beq k 0 with
    | false => o1 G N l fun fl => o1 G N c fun fc => .new fun t => fMakeSlice e k bytes zl (fl t) (fc t)
    | true => .bad 27
  | none => .bad 28
noncomputable def cFieldAddr (s : TypeId) (x : Operand) (f : Nat) : OC := match fieldOff P s f with
  | some off => o1 G N x fun fx => .pure fun t => fFieldAddr off (fx t)
  | none => match fieldZero P s f with
    | true => o1 G N x fun fx => .read fun t h => fZeroField P h (fx t)
    | false => .bad 29
noncomputable def cField (s : TypeId) (x : Operand) (f : Nat) : OC := match fieldOf P s f with
  | some fd => match tInfo P fd.type with
    | some (agg, k) => o1 G N x fun fx => .pure fun t => fField agg k fd.offset (fx t)
    | none => .bad 30
  | none => .bad 31
noncomputable def cIndexAddr (ty : TypeId) (x i : Operand) : OC := match elemInfo P ty with
  | some (none, _, k) => o1 G N x fun fx => o1 G N i fun fi => .pure fun t => fIdxSlice k (fx t) (fi t)
  | some (some n, _, k) => o1 G N x fun fx => o1 G N i fun fi => .pure fun t => fIdxArr n k (fx t) (fi t)
  | none => .bad 32
noncomputable def cIndex (ty : TypeId) (x i : Operand) : OC := o1 G N x fun fx => o1 G N i fun fi => match P.underlying ty with
  | some .string => .pure fun t => fIndexStr (fx t) (fi t)
  | _ => match elemInfo P ty with
    | some (some n, e, k) => match tInfo P e with
      | some (agg, k') => match Nat.beq k k' with
        | true => .pure fun t => fIndexAgg agg n k (fx t) (fi t)
        | false => .bad 33
      | none => .bad 34
    | _ => .bad 35
noncomputable def cSlice (ty : TypeId) (x : Operand) (lo hi mx : Option Operand) : OC := match mx with
  | none => o1 G N x fun fx => oo G N lo fun fl => oo G N hi fun fh => match P.underlying ty with
    | some .string => .pure fun t => fSliceStr (fx t) (fl t) (fh t)
    | _ => match elemInfo P ty with
      | some (none, _, k) => .pure fun t => fSliceSl k (fx t) (fl t) (fh t)
      | some (some n, _, k) => .pure fun t => fSliceArr n k (fx t) (fl t) (fh t)
      | none => .bad 36
  | some mx => match lo with
    | none => .bad 37
    | some lo => match hi with
      | none => .bad 38
      | some hi => match elemInfo P ty with
        | some (none, _, k) => o1 G N x fun fx => o1 G N lo fun fl => o1 G N hi fun fh => o1 G N mx fun fm => .pure fun t => fSliceMx k (fx t) (fl t) (fh t) (fm t)
        | _ => .bad 39
noncomputable def cRange (ty : TypeId) (x : Operand) : OC := match P.underlying ty with
  | some .string => o1 G N x fun f => .new fun t => fRangeStr (f t)
  | _ => .bad 40
noncomputable def nextE (v : AV) (h : Hp) (n : Nat) : ER := match fNext G h v with
  | some (r, h') => .ok r h' n
  | none => .no
noncomputable def cNext (x : Operand) (isStr : Bool) : OC := match isStr with
  | true => o1 G N x fun f => .eff fun t h n => nextE G (f t) h n
  | false => .bad 41
noncomputable def cExtract (x : Operand) (i : Nat) : OC := o1 G N x fun f => .pure fun t => fExtract i (f t)

/-! ### literals -/
noncomputable def partsO (G N : Nat) : List (Nat × Operand) → Option (List (Nat × (T → AV)))
  | [] => some []
  | (i, x) :: l => match opnd G N x with
    | some f => match partsO G N l with
      | some r => some ((i, f) :: r)
      | none => none
    | none => none
def evP (fs : List (Nat × (T → AV))) (t : T) : List (Nat × AV) := fs.map fun p => (p.1, p.2 t)
def evQ (fs : List (Nat × Nat × (T → AV))) (t : T) : List (Nat × Nat × AV) := fs.map fun p => (p.1, p.2.1, p.2.2 t)
def placesF (P : Program) (ty : TypeId) : List (Nat × (T → AV)) → Option (List (Nat × Nat × (T → AV)))
  | [] => some []
  | (i, f) :: l => match placeOf P ty i with
    | some (off, size) => match placesF P ty l with
      | some r => some ((off, size, f) :: r)
      | none => none
    | none => none
noncomputable def cBuild (ty : TypeId) (parts : List (Nat × Operand)) : OC := match zeroA P ty with
  | some zero => match fieldsIn P ty with
    | true => match partsO G N parts with
      | some fs => match placesF P ty fs with
        | some qs => .pure fun t => fBuild zero (evQ qs t)
        | none => .bad 42
      | none => .bad 43
    | false => .bad 44
  | none => .bad 45
def sliceF (k : Nat) (fs : List (Nat × (T → AV))) : List (Nat × Nat × (T → AV)) := fs.map fun p => (Nat.mul p.1 k, k, p.2)
noncomputable def buildSliceV (e len : Nat) (zeros : List AV) (qs : List (Nat × Nat × AV)) : Option (AObj × NV) := match fillA qs zeros with
  | some l => match rowObj l e .none 0 with
    | some o => some (o, .sl len len false)
    | none => none
  | none => none
noncomputable def cBuildSlice (ty : TypeId) (len : Nat) (parts : List (Nat × Operand)) : OC := match elemZ P ty with
  | some (e, k, _, zl) => match and (not (Nat.beq k 0)) (Nat.ble (Nat.mul len k) 16777216) with
    | true => match partsO G N parts with
      | some fs => .new fun t => buildSliceV e len (zerosL zl k (Nat.mul len k)) (evQ (sliceF k fs) t)
      | none => .bad 46
    | false => .bad 47
  | none => .bad 48
end

section
variable {P : Program} {G N : Nat} {o : Oper}

theorem cMove_ok {x : Operand} (ho : o.op = .move x ∨ o.op = .assign x) : OpOK P G N o (cMove G N x) := by
  refine o1_ok fun f hf => ?_
  intro w0 ρ h nx w t a v H R hv
  obtain ⟨h1, h2⟩ := opnd_sound H R hf
  simp only [Option.some.injEq] at hv; subst hv
  refine ⟨?_, h1⟩
  rcases ho with ho | ho <;> simp [execOp, ho, h2]

theorem cPick_ok {c a b : Operand} (ho : o.op = .pick c a b) : OpOK P G N o (cPick G N c a b) := by
  refine o1_ok fun fc hc => o1_ok fun fa ha => o1_ok fun fb hb => ?_
  intro w0 ρ h nx w t ac v H R hv
  obtain ⟨_, c2⟩ := opnd_sound H R hc
  obtain ⟨a1, a2⟩ := opnd_sound H R ha
  obtain ⟨b1, b2⟩ := opnd_sound H R hb
  unfold pickV at hv
  dsimp only at hv
  split at hv
  · rename_i e
    simp only [Option.some.injEq] at hv; subst hv
    exact ⟨by simp [execOp, ho, c2, e, toV, asBool, a2], a1⟩
  · rename_i e
    simp only [Option.some.injEq] at hv; subst hv
    exact ⟨by simp [execOp, ho, c2, e, toV, asBool, b2], b1⟩
  · simp at hv

theorem cAlloc_ok {ty : TypeId} (ho : o.op = .alloc ty) : OpOK P G N o (cAlloc P ty) := by
  unfold cAlloc; split
  · rename_i l hl
    split
    · rename_i ob hob
      intro w0 ρ h nx w t a ob' nv' H R hv
      simp only [Option.some.injEq, Prod.mk.injEq] at hv
      obtain ⟨rfl, rfl⟩ := hv
      exact ⟨_, alloc_new hl hob, by simp only [execOp, ho]; exact run_v _⟩
    · trivial
  · trivial

theorem cBox_ok {ty : TypeId} {x : Operand} (ho : o.op = .box ty x) : OpOK P G N o (cBox G N ty x) := by
  refine o1_ok fun f hf => ?_
  intro w0 ρ h nx w t a ob nv' H R hv
  obtain ⟨h1, h2⟩ := opnd_sound H R hf
  unfold boxV at hv
  dsimp only at hv
  split at hv
  · rename_i ob' hob
    simp only [Option.some.injEq, Prod.mk.injEq] at hv
    obtain ⟨rfl, rfl⟩ := hv
    exact ⟨_, box_new h1 hob, by simp only [execOp, ho, h2]; exact run_v _⟩
  · simp at hv

theorem cLoad_ok {ty : TypeId} {x : Operand} (ho : o.op = .load ty x) : OpOK P G N o (cLoad P G N ty x) := by
  unfold cLoad; split
  · rename_i agg k ht
    refine o1_ok fun f hf => ?_
    intro w0 ρ h nx w t a v H R hv
    obtain ⟨h1, h2⟩ := opnd_sound H R hf
    obtain ⟨h3, h4⟩ := load_sound (P := P) H ht h1 hv
    exact ⟨by simp only [execOp, ho, h2]; exact run_v_ok h3, h4⟩
  · trivial

theorem cStore_ok {ty : TypeId} {a x : Operand} (ho : o.op = .store ty a x) : OpOK P G N o (cStore P G N ty a x) := by
  unfold cStore; split
  · rename_i i hi
    refine o1_ok fun fa ha => o1_ok fun fx hx => ?_
    intro w0 ρ h nx w t ac v h' nx' H R hv
    obtain ⟨a1, a2⟩ := opnd_sound H R ha
    obtain ⟨x1, x2⟩ := opnd_sound H R hx
    unfold storeE at hv
    dsimp only at hv
    split at hv
    · rename_i h2 hs
      simp only [ER.ok.injEq] at hv
      obtain ⟨rfl, rfl, rfl⟩ := hv
      obtain ⟨w', q1, q2, q3⟩ := store_sound (P := P) H hi a1 x1 hs
      exact ⟨ρ, w', .inr ⟨by simp only [execOp, ho, a2, x2]; exact run_u_ok q1, rfl⟩, trivial, q2, q3⟩
    · simp at hv
  · trivial

theorem cNilCheck_ok {x : Operand} (ho : o.op = .nilCheck x) : OpOK P G N o (cNilCheck G N x) := by
  refine o1_ok fun f hf => ?_
  intro w0 ρ h nx w t a v H R hv
  obtain ⟨h1, h2⟩ := opnd_sound H R hf
  exact nilCheck_sound ho h2 h1 hv

theorem cBin_ok {op : BinOp} {ty ty' : TypeId} {x y : Operand} (ho : o.op = .binOp op ty x y ty') : OpOK P G N o (cBin P G N op ty x y) := by
  refine o1_ok fun fx hx => o1_ok fun fy hy => ?_
  split
  · intro w0 ρ h nx w t a v H R hv
    obtain ⟨x1, x2⟩ := opnd_sound H R hx
    obtain ⟨y1, y2⟩ := opnd_sound H R hy
    obtain ⟨h1, h2⟩ := binP_sound (P := P) (w := w) (t := ty) (X := x) (Y := y) x1 y1 hv
    exact ⟨by simp only [execOp, ho, x2, y2]; exact run_v_ok h1, h2⟩
  · intro w0 ρ h nx w t a v H R hv
    obtain ⟨x1, x2⟩ := opnd_sound H R hx
    obtain ⟨y1, y2⟩ := opnd_sound H R hy
    unfold eqR at hv
    dsimp only at hv
    split at hv
    · simp at hv
    · simp at hv
    · rename_i k1 k2
      obtain ⟨h1, h2⟩ := binR_sound (P := P) H x1 y1 (fun ⟨k, n, e⟩ => k1 k n e) (fun ⟨k, n, e⟩ => k2 k n e) hv
      exact ⟨by simp only [execOp, ho, x2, y2]; exact run_v_ok h1, h2⟩

theorem cUn_ok {op : UnOp} {ty : TypeId} {x : Operand} (ho : o.op = .unOp op ty x) : OpOK P G N o (cUn G N op x) := by
  refine o1_ok fun f hf => ?_
  intro w0 ρ h nx w t a v H R hv
  obtain ⟨h1, h2⟩ := opnd_sound H R hf
  obtain ⟨h3, h4⟩ := unary_sound (P := P) (ρ := ρ) (w := w) h1 hv
  exact ⟨by simp only [execOp, ho, h2]; exact run_v_ok h3, h4⟩

theorem cConv_ok {src dst : TypeId} {x : Operand} (ho : o.op = .convert src dst x) : OpOK P G N o (cConv P G N src dst x) := by
  refine o1_ok fun f hf => ?_
  split
  · trivial
  · rename_i ds hs
    split
    · trivial
    · rename_i dd hd
      split
      · intro w0 ρ h nx w t a v H R hv
        obtain ⟨h1, h2⟩ := opnd_sound H R hf
        obtain ⟨h3, h4⟩ := convInt_sound (P := P) (ρ := ρ) (w := w) h1 hs hd hv
        exact ⟨by simp only [execOp, ho, h2]; exact run_v_ok h3, h4⟩
      · split
        · intro w0 ρ h nx w t a v H R hv
          obtain ⟨h1, h2⟩ := opnd_sound H R hf
          obtain ⟨h3, h4⟩ := convStr_sound (P := P) (w := w) hs hd h1 hv
          exact ⟨by simp only [execOp, ho, h2]; exact run_v_ok h3, h4⟩
        · split
          · rename_i he
            intro w0 ρ h nx w t a v H R hv
            obtain ⟨h1, h2⟩ := opnd_sound H R hf
            obtain ⟨h3, h4⟩ := convBytesStr_sound (P := P) H hs he hd h1 hv
            exact ⟨by simp only [execOp, ho, h2]; exact run_v_ok h3, h4⟩
          · trivial
        · trivial
      · split
        · split
          · rename_i he
            intro w0 ρ h nx w t a ob nv' H R hv
            obtain ⟨h1, h2⟩ := opnd_sound H R hf
            exact ⟨_, strBytes_new hs hd he hv, by simp only [execOp, ho, h2]; exact run_v _⟩
          · trivial
        · trivial
      · split
        · split
          · rename_i i hi
            split
            · rename_i hz
              rw [beq_eq, decide_eq_false_iff_not] at hz
              intro w0 ρ h nx w t a v H R hv
              obtain ⟨h1, h2⟩ := opnd_sound H R hf
              obtain ⟨h3, h4⟩ := toUnsafe_sound (P := P) H hs hd hi hz h1 hv
              exact ⟨by simp only [execOp, ho, h2]; exact run_v_ok h3, h4⟩
            · trivial
          · trivial
        · trivial
      · split
        · split
          · rename_i i hi
            intro w0 ρ h nx w t a v H R hv
            obtain ⟨h1, h2⟩ := opnd_sound H R hf
            obtain ⟨h3, h4⟩ := fromUnsafe_sound (P := P) H hs hd hi h1 hv
            exact ⟨by simp only [execOp, ho, h2]; exact run_v_ok h3, h4⟩
          · trivial
        · trivial
      · trivial

theorem cMakeIface_ok {ty : TypeId} {x : Operand} (ho : o.op = .makeInterface ty x) : OpOK P G N o (cMakeIface P G N ty x) := by
  unfold cMakeIface; split
  · rename_i hc
    refine o1_ok fun f hf => ?_
    intro w0 ρ h nx w t a v H R hv
    obtain ⟨h1, h2⟩ := opnd_sound H R hf
    obtain ⟨h3, h4⟩ := makeIface_sound (P := P) (w := w) hc h1 hv
    exact ⟨by simp only [execOp, ho, h2]; exact run_v_ok h3, h4⟩
  · trivial

theorem cMakeFunc_ok {fn : Fn} {first captured : Array Operand} (ho : o.op = .makeFunc fn first captured) : OpOK P G N o (cMakeFunc G N fn first.toList captured.toList) := by
  refine os_ok fun ff hf => os_ok fun fc hc => ?_
  intro w0 ρ h nx w t a v H R hv
  obtain ⟨f1, f2⟩ := opnds_sound H R hf
  obtain ⟨c1, c2⟩ := opnds_sound H R hc
  simp only [Option.some.injEq] at hv; subst hv
  refine ⟨?_, f1, c1⟩
  simp only [execOp, ho]
  refine run_v_ok ?_
  have e1 : first.map a.eval = ((evs ff t).map (toV ρ)).toArray := by
    rw [← f2]; apply Array.ext'; simp
  have e2 : captured.map a.eval = ((evs fc t).map (toV ρ)).toArray := by
    rw [← c2]; apply Array.ext'; simp
  simp [Instr.makeFunc, e1, e2, toV, toVs_map]

theorem cMakeSlice_ok {ty : TypeId} {l c : Operand} (ho : o.op = .makeSlice ty l c) : OpOK P G N o (cMakeSlice P G N ty l c) := by
  unfold cMakeSlice; split
  · rename_i e k bytes zl ht
    split
    · rename_i hk
      rw [beq_eq, decide_eq_false_iff_not] at hk
      refine o1_ok fun fl hl => o1_ok fun fc hc => ?_
      intro w0 ρ h nx w t a ob nv' H R hv
      obtain ⟨_, l2⟩ := opnd_sound H R hl
      obtain ⟨_, c2⟩ := opnd_sound H R hc
      exact ⟨_, makeSlice_new ht hk hv, by simp only [execOp, ho, l2, c2]; exact run_v _⟩
    · trivial
  · trivial

theorem cFieldAddr_ok {s : TypeId} {x : Operand} {f : Nat} (ho : o.op = .fieldAddr s x f) : OpOK P G N o (cFieldAddr P G N s x f) := by
  unfold cFieldAddr; split
  · rename_i off hoff
    refine o1_ok fun fx hx => ?_
    intro w0 ρ h nx w t a v H R hv
    obtain ⟨h1, h2⟩ := opnd_sound H R hx
    obtain ⟨h3, h4⟩ := fieldAddr_sound (P := P) (w := w) hoff h1 hv
    exact ⟨by simp only [execOp, ho, h2]; exact run_v_ok h3, h4⟩
  · split
    · rename_i hz
      refine o1_ok fun fx hx => ?_
      intro w0 ρ h nx w t a v H R hv
      obtain ⟨h1, h2⟩ := opnd_sound H R hx
      obtain ⟨h3, h4⟩ := zeroField_sound H hz h1 hv
      exact ⟨by simp only [execOp, ho, h2]; exact run_v_ok h3, h4⟩
    · trivial

theorem cField_ok {s : TypeId} {x : Operand} {f : Nat} (ho : o.op = .field s x f) : OpOK P G N o (cField P G N s x f) := by
  unfold cField; split
  · rename_i fd hfd
    split
    · rename_i agg k ht
      refine o1_ok fun fx hx => ?_
      intro w0 ρ h nx w t a v H R hv
      obtain ⟨h1, h2⟩ := opnd_sound H R hx
      obtain ⟨h3, h4⟩ := field_sound (P := P) (w := w) hfd ht h1 hv
      exact ⟨by simp only [execOp, ho, h2]; exact run_v_ok h3, h4⟩
    · trivial
  · trivial

theorem cIndexAddr_ok {ty : TypeId} {x i : Operand} (ho : o.op = .indexAddr ty x i) : OpOK P G N o (cIndexAddr P G N ty x i) := by
  unfold cIndexAddr; split
  · rename_i e k ht
    refine o1_ok fun fx hx => o1_ok fun fi hi => ?_
    intro w0 ρ h nx w t a v H R hv
    obtain ⟨x1, x2⟩ := opnd_sound H R hx
    obtain ⟨_, i2⟩ := opnd_sound H R hi
    obtain ⟨h3, h4⟩ := idxSlice_sound (P := P) (w := w) ht x1 hv
    exact ⟨by simp only [execOp, ho, x2, i2]; exact run_v_ok h3, h4⟩
  · rename_i n e k ht
    refine o1_ok fun fx hx => o1_ok fun fi hi => ?_
    intro w0 ρ h nx w t a v H R hv
    obtain ⟨x1, x2⟩ := opnd_sound H R hx
    obtain ⟨_, i2⟩ := opnd_sound H R hi
    obtain ⟨h3, h4⟩ := idxArr_sound (P := P) (w := w) ht x1 hv
    exact ⟨by simp only [execOp, ho, x2, i2]; exact run_v_ok h3, h4⟩
  · trivial

theorem cIndex_ok {ty : TypeId} {x i : Operand} (ho : o.op = .index ty x i) : OpOK P G N o (cIndex P G N ty x i) := by
  refine o1_ok fun fx hx => o1_ok fun fi hi => ?_
  split
  · rename_i ht
    intro w0 ρ h nx w t a v H R hv
    obtain ⟨x1, x2⟩ := opnd_sound H R hx
    obtain ⟨_, i2⟩ := opnd_sound H R hi
    obtain ⟨h3, h4⟩ := indexStr_sound (P := P) (ρ := ρ) (w := w) ht hv
    exact ⟨by simp only [execOp, ho, x2, i2]; exact run_v_ok h3, h4⟩
  · split
    · rename_i n e k ht
      split
      · rename_i agg k' he
        split
        · rename_i hk
          rw [Nat.beq_eq] at hk
          subst hk
          intro w0 ρ h nx w t a v H R hv
          obtain ⟨x1, x2⟩ := opnd_sound H R hx
          obtain ⟨i1, i2⟩ := opnd_sound H R hi
          obtain ⟨h3, h4⟩ := indexAgg_sound (P := P) (w := w) ht he x1 i1 hv
          exact ⟨by simp only [execOp, ho, x2, i2]; exact run_v_ok h3, h4⟩
        · trivial
      · trivial
    · trivial

theorem cSlice_ok {ty : TypeId} {x : Operand} {lo hi mx : Option Operand} (ho : o.op = .slice ty x lo hi mx) : OpOK P G N o (cSlice P G N ty x lo hi mx) := by
  unfold cSlice; split
  · refine o1_ok fun fx hx => oo_ok fun fl hl => oo_ok fun fh hh => ?_
    split
    · rename_i ht
      intro w0 ρ h nx w t a v H R hv
      obtain ⟨x1, x2⟩ := opnd_sound H R hx
      obtain ⟨h3, h4⟩ := sliceStr_sound (P := P) (ρ := ρ) (w := w) ht hv
      exact ⟨by simp only [execOp, ho, x2, optOp_sound H R hl, optOp_sound H R hh]; exact run_v_ok h3, h4⟩
    · split
      · rename_i ht
        intro w0 ρ h nx w t a v H R hv
        obtain ⟨x1, x2⟩ := opnd_sound H R hx
        obtain ⟨h3, h4⟩ := sliceSl_sound (P := P) (w := w) ht x1 hv
        exact ⟨by simp only [execOp, ho, x2, optOp_sound H R hl, optOp_sound H R hh]; exact run_v_ok h3, h4⟩
      · rename_i ht
        intro w0 ρ h nx w t a v H R hv
        obtain ⟨x1, x2⟩ := opnd_sound H R hx
        obtain ⟨h3, h4⟩ := sliceArr_sound (P := P) (w := w) ht x1 hv
        exact ⟨by simp only [execOp, ho, x2, optOp_sound H R hl, optOp_sound H R hh]; exact run_v_ok h3, h4⟩
      · trivial
  · split
    · trivial
    · split
      · trivial
      · split
        · rename_i ht
          refine o1_ok fun fx hx => o1_ok fun fl hl => o1_ok fun fh hh => o1_ok fun fm hm => ?_
          intro w0 ρ h nx w t a v H R hv
          obtain ⟨x1, x2⟩ := opnd_sound H R hx
          obtain ⟨_, l2⟩ := opnd_sound H R hl
          obtain ⟨_, h2⟩ := opnd_sound H R hh
          obtain ⟨_, m2⟩ := opnd_sound H R hm
          obtain ⟨h3, h4⟩ := sliceMx_sound (P := P) (w := w) ht x1 hv
          exact ⟨by simp only [execOp, ho, x2, Option.map_some, l2, h2, m2]; exact run_v_ok h3, h4⟩
        · trivial

theorem cRange_ok {ty : TypeId} {x : Operand} (ho : o.op = .range ty x) : OpOK P G N o (cRange P G N ty x) := by
  unfold cRange; split
  · rename_i ht
    refine o1_ok fun f hf => ?_
    intro w0 ρ h nx w t a ob nv' H R hv
    obtain ⟨h1, h2⟩ := opnd_sound H R hf
    exact ⟨_, rangeStr_new ht h1 hv, by simp only [execOp, ho, h2]; exact run_v _⟩
  · trivial

theorem cNext_ok {x : Operand} {s : Bool} (ho : o.op = .next x s) : OpOK P G N o (cNext G N x s) := by
  unfold cNext; split
  · refine o1_ok fun f hf => ?_
    intro w0 ρ h nx w t a v h' nx' H R hv
    obtain ⟨h1, h2⟩ := opnd_sound H R hf
    unfold nextE at hv
    dsimp only at hv
    split at hv
    · rename_i r h2' hs
      simp only [ER.ok.injEq] at hv
      obtain ⟨rfl, rfl, rfl⟩ := hv
      obtain ⟨ρ', w', q1, q2, q3, q4⟩ := next_sound (P := P) (ty := o.type) H h1 hs
      exact ⟨ρ', w', .inl (by simp only [execOp, ho, h2]; exact run_v_ok q1), q2, q3, q4⟩
    · simp at hv
  · trivial

theorem cExtract_ok {x : Operand} {i : Nat} (ho : o.op = .extract x i) : OpOK P G N o (cExtract G N x i) := by
  refine o1_ok fun f hf => ?_
  intro w0 ρ h nx w t a v H R hv
  obtain ⟨h1, h2⟩ := opnd_sound H R hf
  obtain ⟨h3, h4⟩ := extract_sound (P := P) (w := w) h1 hv
  exact ⟨by simp only [execOp, ho, h2]; exact run_v_ok h3, h4⟩

theorem partsO_sound {w0 ρ h nx w t} {a : Act} (H : HRel G w0 ρ h nx w) (R : TRel ρ N t a.tmps) : ∀ {ps : List (Nat × Operand)} {fs : List (Nat × (T → AV))}, partsO G N ps = some fs →
    (∀ p ∈ evP fs t, okv ρ.d p.2) ∧ (ps.map fun p => (p.1, a.eval p.2)) = (evP fs t).map fun p => (p.1, toV ρ p.2)
  | [], fs, hx => by simp only [partsO, Option.some.injEq] at hx; subst hx; exact ⟨by simp [evP], rfl⟩
  | (i, x) :: ps, fs, hx => by
    simp only [partsO] at hx
    split at hx
    · rename_i f hf
      split at hx
      · rename_i r hr
        simp only [Option.some.injEq] at hx; subst hx
        obtain ⟨h1, h2⟩ := opnd_sound H R hf
        obtain ⟨h3, h4⟩ := partsO_sound H R hr
        refine ⟨fun p hp => ?_, ?_⟩
        · rcases List.mem_cons.1 hp with rfl | hp
          · exact h1
          · exact h3 p hp
        · simp only [List.map_cons, h2, h4, evP]
      · simp at hx
    · simp at hx

theorem placesF_spec {ty : TypeId} {t : T} : ∀ {fs : List (Nat × (T → AV))} {qs : List (Nat × Nat × (T → AV))}, placesF P ty fs = some qs → zipParts P ty (evP fs t) = some (evQ qs t)
  | [], qs, hq => by simp only [placesF, Option.some.injEq] at hq; subst hq; rfl
  | (i, f) :: fs, qs, hq => by
    simp only [placesF] at hq
    split at hq
    · rename_i off size hp
      split at hq
      · rename_i r hr
        simp only [Option.some.injEq] at hq; subst hq
        have ih := placesF_spec (t := t) hr
        simp only [evP, List.map_cons, zipParts, hp]
        simp only [evP] at ih
        rw [ih]
        rfl
      · simp at hq
    · simp at hq

theorem cBuild_ok {ty : TypeId} {parts : Array (Nat × Operand)} (ho : o.op = .build ty parts) : OpOK P G N o (cBuild P G N ty parts.toList) := by
  unfold cBuild; split
  · rename_i zero hz
    split
    · rename_i hin
      split
      · rename_i fs hfs
        split
        · rename_i qs hqs
          intro w0 ρ h nx w t a v H R hv
          obtain ⟨h1, h2⟩ := partsO_sound H R hfs
          obtain ⟨h3, h4⟩ := build_sound (P := P) (w := w) hz hin (placesF_spec (t := t) hqs) h1 hv
          refine ⟨?_, h4⟩
          simp only [execOp, ho]
          have e : (parts.map fun (i, x) => (i, a.eval x)) = ((evP fs t).map fun p => (p.1, toV ρ p.2)).toArray := by
            rw [← h2]; apply Array.ext'; simp
          rw [e]
          exact run_v_ok h3
        · trivial
      · trivial
    · trivial
  · trivial

theorem sliceF_spec {k : Nat} {fs : List (Nat × (T → AV))} {t : T} : evQ (sliceF k fs) t = sliceParts k (evP fs t) := by
  simp [evQ, sliceF, sliceParts, evP]

theorem cBuildSlice_ok {ty : TypeId} {len : Nat} {parts : Array (Nat × Operand)} (ho : o.op = .buildSlice ty len parts) : OpOK P G N o (cBuildSlice P G N ty len parts.toList) := by
  unfold cBuildSlice; split
  · rename_i e k bytes zl ht
    split
    · rename_i hk
      simp only [Bool.and_eq_true, Bool.not_eq_true', beq_eq, decide_eq_false_iff_not] at hk
      obtain ⟨hk, hl⟩ := hk
      have hl : len * k ≤ 16777216 := Nat.le_of_ble_eq_true hl
      split
      · rename_i fs hfs
        intro w0 ρ h nx w t a ob nv' H R hv
        obtain ⟨h1, h2⟩ := partsO_sound H R hfs
        dsimp only at hv
        rw [sliceF_spec] at hv
        have h3 := buildSlice_new (P := P) (w := w) (ρ := ρ) ht hk hl h1 hv
        refine ⟨_, h3, ?_⟩
        simp only [execOp, ho]
        have e : (parts.map fun (i, x) => (i, a.eval x)) = ((evP fs t).map fun p => (p.1, toV ρ p.2)).toArray := by
          rw [← h2]; apply Array.ext'; simp
        rw [e]
        exact run_v _
      · trivial
    · trivial
  · trivial

end
end Go.Vai
