/- Conversions, unary operations, builtins without memory, aggregates built. -/
import Derived.Test.YtjkpgkmhkgngpaaGreatDoorVaiH
import Derived.Laws.IdiomStrings
namespace Go.Vai
open Go.RowKit

section
variable {G : Nat} {w0 : Base} {ρ : Ren} {h : Hp} {nx : Nat} {w : World} {P : Program}

/-! ### conversions -/
def uBits : IntKind → Option Nat
  | .u8 => some 8 | .u16 => some 16 | .u32 => some 32 | _ => none
/-- what of a sum is left in an unsigned kind -/
def uMod (k : IntKind) (c : Int) (l : List LV) : Option AV := match uBits k with
  | some b => match qr (Nat.pow 2 b) c l with
    | some x => mkLin k x.r x.rl
    | none => none
  | none => none
theorem uMod_spec {k : IntKind} {c : Int} {l : List LV} {r : AV} (h : uMod k c l = some r) (ρ : Ren) : toV ρ r = .int k (k.wrap (linV ρ.s c l)) ∧ ∀ d, okv d r := by
  unfold uMod at h
  split at h <;> try (simp at h; done)
  rename_i b hb
  split at h <;> try (simp at h; done)
  rename_i x hx
  obtain ⟨h1, h2, h3⟩ := mkLin_spec h ρ
  obtain ⟨a, ha, _, _, q2⟩ := qr_div hx ρ.s
  refine ⟨?_, h3⟩
  rw [h1, q2, ha]
  congr 1
  show ((a % 2 ^ b : Nat) : Int) = _
  cases k <;> simp only [uBits, Option.some.injEq, reduceCtorEq] at hb <;> subst hb <;> simp [IntKind.wrap, IntKind.bits, IntKind.signed] <;> omega
def fConvInt (k : IntKind) (v : AV) : Option AV :=
  match v with
  | .int _ n => some (.int k (wrapI k n))
  | .lint _ c l => match mkLin k c l with
    | some r => some r
    | none => match uMod k c l with
      | some r => some r
      | none => conI k v
  | .tab _ _ _ _ => conI k v
  | .sx _ _ _ => sxCon k v
  | _ => none
theorem convInt_sound {src dst : TypeId} {ds : TypeDesc} {k : IntKind} {v r : AV} (hv : okv ρ.d v) (hs : P.underlying src = some ds) (hd : P.underlying dst = some (.int k))
    (hr : fConvInt k v = some r) : (convert src dst (toV ρ v)).run P w = .ok (toV ρ r) w ∧ okv ρ.d r := by
  cases v <;> try (simp [fConvInt] at hr; done)
  · simp only [fConvInt, Option.some.injEq] at hr; subst hr
    refine ⟨?_, trivial⟩
    cases ds <;> simp [convert, run_underlying hs, run_underlying hd, toV, Conv.intToInt, wrapI_eq]
  · simp only [fConvInt] at hr
    split at hr
    · rename_i r' hr'
      simp only [Option.some.injEq] at hr; subst hr
      obtain ⟨h1, h2, h3⟩ := mkLin_spec hr' ρ
      refine ⟨?_, h3 _⟩
      rw [h1]
      cases ds <;> simp [convert, run_underlying hs, run_underlying hd, toV, Conv.intToInt, h2]
    · split at hr
      · rename_i r' hr'
        simp only [Option.some.injEq] at hr; subst hr
        obtain ⟨h2, h3⟩ := uMod_spec hr' ρ
        refine ⟨?_, h3 _⟩
        rw [h2]
        cases ds <;> simp [convert, run_underlying hs, run_underlying hd, toV, Conv.intToInt]
      · obtain ⟨k', a, h1, h2, h3⟩ := conI_spec hr ρ
        refine ⟨?_, h3 _⟩
        rw [h1, h2, wrapI_eq]
        cases ds <;> simp [convert, run_underlying hs, run_underlying hd, Conv.intToInt]
  · simp only [fConvInt] at hr
    obtain ⟨k', a, h1, h2, h3⟩ := conI_spec hr ρ
    refine ⟨?_, h3 _⟩
    rw [h1, h2, wrapI_eq]
    cases ds <;> simp [convert, run_underlying hs, run_underlying hd, Conv.intToInt]
  · simp only [fConvInt] at hr
    obtain ⟨k', a, h1, h2, h3⟩ := sxCon_spec hr ρ hv
    refine ⟨?_, h3⟩
    rw [h1, h2]
    cases ds <;> simp [convert, run_underlying hs, run_underlying hd, Conv.intToInt]

def fConvStr (v : AV) : Option AV :=
  match v with
  | .str _ _ => some v
  | .lstr _ _ _ => some v
  | _ => none
theorem convStr_sound {src dst : TypeId} {ds : TypeDesc} {v r : AV} (hs : P.underlying src = some ds) (hd : P.underlying dst = some .string) (hv : okv ρ.d v)
    (hr : fConvStr v = some r) : (convert src dst (toV ρ v)).run P w = .ok (toV ρ r) w ∧ okv ρ.d r := by
  cases v <;> try (simp [fConvStr] at hr; done)
  all_goals
    simp only [fConvStr, Option.some.injEq] at hr; subst hr
    refine ⟨?_, hv⟩
    cases ds <;> simp [convert, run_underlying hs, run_underlying hd, toV]

/-- the bytes that values are -/
def bytesNat : List AV → Option Nat
  | [] => some 0
  | v :: l => match v with
    | .int .u8 n => match n with
      | .ofNat m => match Nat.blt m 256 with
        | true => match bytesNat l with
          | some r => some (Nat.add m (Nat.mul 256 r))
          | none => none
        | false => none
      | .negSucc _ => none
    | _ => none
theorem bytesNat_spec : ∀ (l : List AV) (n : Nat), bytesNat l = some n → n < 2 ^ (8 * l.length) ∧ l.map (toV ρ) = (bytesOf l.length n).map fun b => .int .u8 (b.toNat : Int)
  | [], n, hn => by simp only [bytesNat, Option.some.injEq] at hn; subst hn; simp [bytesOf]
  | v :: l, n, hn => by
    simp only [bytesNat] at hn
    split at hn
    · split at hn
      · rename_i m
        split at hn
        · rename_i hm
          rw [blt_eq] at hm
          have hm := of_decide_eq_true hm
          split at hn
          · rename_i q hq
            simp only [Option.some.injEq] at hn; subst hn
            obtain ⟨h1, h2⟩ := bytesNat_spec l q hq
            have e1 : Nat.add m (Nat.mul 256 q) % 256 = m := by show (m + 256 * q) % 256 = m; omega
            have e2 : Nat.add m (Nat.mul 256 q) / 256 = q := by show (m + 256 * q) / 256 = q; omega
            refine ⟨?_, ?_⟩
            · rw [List.length_cons, pow8_succ]
              show m + 256 * q < _
              omega
            · simp only [List.map_cons, List.length_cons, bytesOf, e1, e2, h2]
              congr 1
              simp only [toV]
              congr 1
              rw [UInt8.toNat_ofNat', Nat.mod_eq_of_lt (by simpa using hm)]
              rfl
          · simp at hn
        · simp at hn
      · simp at hn
    · simp at hn

/-- bytes that need not be known -/
def bytesLin : List AV → Option (Int × List LV)
  | [] => some (0, [])
  | v :: l => match bytesLin l with
    | none => none
    | some (c, m) => match v with
      | .int .u8 a => match and (not (ltI a 0)) (ltI a 256) with
        | true => some (Int.add a (Int.mul 256 c), mulL 256 m)
        | false => none
      | .lint .u8 a q => match and (not (ltI (linMn a q) 0)) (ltI (linMx a q) 256) with
        | true => some (Int.add a (Int.mul 256 c), addL q (mulL 256 m))
        | false => none
      | _ => none
theorem bytes_cons {a : Int} {n : Nat} {len : Nat} (h0 : 0 ≤ a) (h1 : a < 256) (hn : n < 2 ^ (8 * len)) :
    ∃ n' : Nat, a + 256 * Int.ofNat n = .ofNat n' ∧ n' < 2 ^ (8 * (len + 1)) ∧ (bytesOf (len + 1) n').map (fun b => Value.int .u8 (b.toNat : Int)) = .int .u8 a :: (bytesOf len n).map fun b => Value.int .u8 (b.toNat : Int) := by
  obtain ⟨m, rfl⟩ := Int.eq_ofNat_of_zero_le h0
  have hm : m < 256 := by omega
  refine ⟨m + 256 * n, rfl, by rw [pow8_succ]; omega, ?_⟩
  have e1 : (m + 256 * n) % 256 = m := by omega
  have e2 : (m + 256 * n) / 256 = n := by omega
  simp only [bytesOf, e1, e2, List.map_cons]
  congr 2
  rw [UInt8.toNat_ofNat', Nat.mod_eq_of_lt (by simpa using hm)]
theorem bytesLin_spec : ∀ (l : List AV) (c : Int) (m : List LV), bytesLin l = some (c, m) → ∃ n : Nat, linV ρ.s c m = .ofNat n ∧ n < 2 ^ (8 * l.length) ∧
    l.map (toV ρ) = (bytesOf l.length n).map fun b => Value.int .u8 (b.toNat : Int)
  | [], c, m, hn => by
    simp only [bytesLin, Option.some.injEq, Prod.mk.injEq] at hn
    obtain ⟨rfl, rfl⟩ := hn
    exact ⟨0, rfl, by simp, rfl⟩
  | v :: l, c, m, hn => by
    simp only [bytesLin] at hn
    split at hn
    · simp at hn
    · rename_i c' m' hq
      obtain ⟨n, h1, h2, h3⟩ := bytesLin_spec l c' m' hq
      split at hn
      · rename_i a
        split at hn
        · rename_i e
          simp only [Option.some.injEq, Prod.mk.injEq] at hn
          obtain ⟨rfl, rfl⟩ := hn
          simp only [Bool.and_eq_true, Bool.not_eq_true', ltI_eq, decide_eq_false_iff_not, decide_eq_true_eq] at e
          obtain ⟨n', g1, g2, g3⟩ := bytes_cons (a := a) (by omega) e.2 h2
          refine ⟨n', ?_, g2, ?_⟩
          · have := linV_add ρ.s a (Int.mul 256 c') [] (mulL 256 m')
            rw [linV_mul, h1] at this
            exact this.trans g1
          · rw [List.map_cons, h3, List.length_cons, g3]; rfl
        · simp at hn
      · rename_i a q
        split at hn
        · rename_i e
          simp only [Option.some.injEq, Prod.mk.injEq] at hn
          obtain ⟨rfl, rfl⟩ := hn
          simp only [Bool.and_eq_true, Bool.not_eq_true', ltI_eq, decide_eq_false_iff_not, decide_eq_true_eq] at e
          have b := lin_rng ρ.s a q
          obtain ⟨n', g1, g2, g3⟩ := bytes_cons (a := linV ρ.s a q) (by omega) (by omega) h2
          refine ⟨n', ?_, g2, ?_⟩
          · rw [linV_add, linV_mul, h1]
            exact g1
          · rw [List.map_cons, h3, List.length_cons, g3]; rfl
        · simp at hn
      · simp at hn

noncomputable def fConvBytesStr (h : Hp) (v : AV) : Option AV :=
  match v with
  | .snil => some (.str 0 0)
  | .edge _ _ _ => some (.str 0 0)
  | .slice b o len _ _ => match rdCells h b o len with
    | some l => match bytesNat l with
      | some n => some (.str len n)
      | none => match bytesLin l with
        | some (c, m) => mkStr len c m
        | none => none
    | none => none
  | _ => none
theorem convBytesStr_sound (H : HRel G w0 ρ h nx w) {src dst e : TypeId} {v r : AV} (hs : P.underlying src = some (.slice e)) (he : P.underlying e = some (.int .u8))
    (hd : P.underlying dst = some .string) (hv : okv ρ.d v) (hr : fConvBytesStr h v = some r) : (convert src dst (toV ρ v)).run P w = .ok (toV ρ r) w ∧ okv ρ.d r := by
  cases v <;> try (simp [fConvBytesStr] at hr; done)
  · simp only [fConvBytesStr, Option.some.injEq] at hr; subst hr
    refine ⟨?_, by simp [okv]⟩
    simp only [toV]
    rw [run_convert_bytes_string w src dst e none 0 0 hs he hd]
    simp [Conv.bytesToString, strOf, bytesOf]; rfl
  · rename_i b o len cap opn
    simp only [fConvBytesStr] at hr
    split at hr
    · rename_i l hl
      obtain ⟨_, h4, h5⟩ := rd_sound H hv hl
      have main : ∀ n : Nat, (l.map (toV ρ) = (bytesOf l.length n).map fun b => Value.int .u8 (b.toNat : Int)) → (convert src dst (toV ρ (.slice b o len cap opn))).run P w = .ok (.string (strOf len n)) w := by
        intro n h2
        subst h4
        have := run_convert_bytes_back (P := P) w src dst e ⟨ρ.m b, o, none⟩ (if opn then cap + ρ.e b else cap) (bytesOf l.length n) hs he hd (by
          intro j hj
          apply h5
          rw [h2, List.getElem?_map, List.getElem?_eq_getElem hj]; rfl)
        rw [bytesOf_length] at this
        simpa [toV, strOf] using this
      split at hr
      · rename_i n hn
        simp only [Option.some.injEq] at hr; subst hr
        obtain ⟨h1, h2⟩ := bytesNat_spec (ρ := ρ) l n hn
        exact ⟨main n h2, by rw [h4] at h1; exact h1⟩
      · split at hr
        · rename_i c m hm
          obtain ⟨n, h1, h2, h3⟩ := bytesLin_spec (ρ := ρ) l c m hm
          obtain ⟨g1, g2⟩ := mkStr_spec hr ρ
          rw [h1] at g1
          exact ⟨by rw [g1]; exact main n h3, g2 _⟩
        · simp at hr
    · simp at hr
  · rename_i b o d
    simp only [fConvBytesStr, Option.some.injEq] at hr; subst hr
    refine ⟨?_, by simp [okv]⟩
    simp only [toV]
    have := run_convert_bytes_back (P := P) w src dst e (if ρ.e b = 0 then ⟨ρ.m b, o, none⟩ else ⟨ρ.m b, o + d, none⟩) (ρ.e b) [] hs he hd (by intro j hj; simp at hj)
    simpa [strOf, bytesOf] using this

/-! ### unsafe.Pointer there and back -/
noncomputable def fToUnsafe (h : Hp) (v : AV) : Option AV :=
  match v with
  | .nilp => some .nilp
  | .ptr b o => match h.get b with
    | some (.cells _ n _ _ _) => match Nat.blt o n with
      | true => some (.ptr b o)
      | false => none
    | _ => none
  | _ => none
theorem toUnsafe_sound (H : HRel G w0 ρ h nx w) {src dst e : TypeId} {i : TypeInfo} {v r : AV} (hs : P.underlying src = some (.pointer e)) (hd : P.underlying dst = some .unsafePointer)
    (hi : P.info? e = some i) (hz : i.size ≠ 0) (hv : okv ρ.d v) (hr : fToUnsafe h v = some r) : (convert src dst (toV ρ v)).run P w = .ok (toV ρ r) w ∧ okv ρ.d r := by
  cases v <;> try (simp [fToUnsafe] at hr; done)
  · simp only [fToUnsafe, Option.some.injEq] at hr; subst hr
    exact ⟨by simp [convert, run_underlying hs, run_underlying hd, toV, Conv.unsafePointer], trivial⟩
  · rename_i b o
    simp only [fToUnsafe] at hr
    split at hr
    · rename_i c n ty fz opn hg
      split at hr
      · rename_i ho
        rw [blt_eq] at ho
        have ho := of_decide_eq_true ho
        simp only [Option.some.injEq] at hr; subst hr
        obtain ⟨cs, fr, hx, k1, _⟩ := H.cells hv hg
        have sh : w.shape? (ρ.m b) = some (ty, cs.size) := by simp [World.shape?, hx]
        refine ⟨?_, hv⟩
        have hlt : ¬ (cs.size ≤ o) := by omega
        simp [convert, run_underlying hs, run_underlying hd, toV, Conv.unsafePointer, Conv.seenAt, viewAt, cellsIn, sh, sizeOf, run_typeInfo _ hi, hz, hlt]
      · simp at hr
    · simp at hr

noncomputable def fFromUnsafe (P : Program) (u : TypeId) (h : Hp) (v : AV) : Option AV :=
  match v with
  | .nilp => some .nilp
  | .ptr b o => match h.get b with
    | some (.cells _ n ty _ 0) => match liesAt P P.depth ty (Nat.div n (P.cellsOf ty)) o u 1 with
      | true => some (.ptr b o)
      | false => none
    | _ => none
  | _ => none
theorem fromUnsafe_sound (H : HRel G w0 ρ h nx w) {src dst u : TypeId} {i : TypeInfo} {v r : AV} (hs : P.underlying src = some .unsafePointer) (hd : P.underlying dst = some (.pointer u))
    (hi : P.info? u = some i) (hv : okv ρ.d v) (hr : fFromUnsafe P u h v = some r) : (convert src dst (toV ρ v)).run P w = .ok (toV ρ r) w ∧ okv ρ.d r := by
  cases v <;> try (simp [fFromUnsafe] at hr; done)
  · simp only [fFromUnsafe, Option.some.injEq] at hr; subst hr
    exact ⟨by simp [convert, run_underlying hs, run_underlying hd, toV, Conv.unsafePointer], trivial⟩
  · rename_i b o
    simp only [fFromUnsafe] at hr
    split at hr
    · rename_i c n ty fz hg
      split at hr
      · rename_i hl
        simp only [Option.some.injEq] at hr; subst hr
        obtain ⟨cs, fr, hx, k2, _⟩ := H.cells hv hg
        rw [Nat.mul_zero, Nat.add_zero] at k2
        have sh : w.shape? (ρ.m b) = some (ty, n) := by simp [World.shape?, hx, k2]
        have hl : liesAt P P.depth ty (n / P.cellsOf ty) o u 1 = true := hl
        refine ⟨?_, hv⟩
        simp [convert, run_underlying hs, run_underlying hd, toV, Conv.unsafePointer, Conv.seenAt, viewAt, sh, sizeOf, run_typeInfo _ hi, variablesAt, hl]
      · simp at hr
    · simp at hr

/-! ### unary -/
def fUnary (op : UnOp) (v : AV) : Option AV :=
  match op with
  | .not => match v with
    | .bool b => some (.bool (not b))
    | _ => none
  | .neg => match v with
    | .int k n => match arithI .sub k 0 n with
      | some r => some (.int k r)
      | none => none
    | _ => none
  | .xor => match v with
    | .int k n => match bitsI .xor k (match k.signed with | true => -1 | false => .ofNat (maxN k)) n with
      | some r => some (.int k r)
      | none => none
    | .sx k b e => match decide (k = .u32) with
      | true => sxBin .xor (.int .u32 4294967295) (.sx k b e)
      | false => none
    | _ => none
  | .plus => none
theorem maxN_int (k : IntKind) : (Int.ofNat (maxN k)) = k.max := by cases k <;> rfl
theorem unary_sound {op : UnOp} {v r : AV} (hv : okv ρ.d v) (hr : fUnary op v = some r) : (Op.unary op (toV ρ v)).run P w = .ok (toV ρ r) w ∧ okv ρ.d r := by
  cases op
  case not =>
    cases v <;> try (simp [fUnary] at hr; done)
    simp only [fUnary, Option.some.injEq] at hr; subst hr
    exact ⟨by simp [Op.unary, toV], trivial⟩
  case neg =>
    cases v <;> try (simp [fUnary] at hr; done)
    simp only [fUnary] at hr
    split at hr
    · rename_i q hq
      simp only [Option.some.injEq] at hr; subst hr
      exact ⟨by simpa [Op.unary, toV] using run_arith w _ _ _ _ _ hq, trivial⟩
    · simp at hr
  case xor =>
    cases v <;> try (simp [fUnary] at hr; done)
    rotate_left
    · rename_i k b e
      simp only [fUnary] at hr
      split at hr
      · rename_i hk
        have hk := of_decide_eq_true hk
        subst hk
        obtain ⟨k1, a, k2, b', r0, h1, h2, h3, h4, h5⟩ := sxBin_spec hr ρ (d := ρ.d) (hx := trivial) hv
        refine ⟨?_, h5⟩
        rw [h4]
        have e1 : k1 = .u32 ∧ a = 4294967295 := by simpa [toV, eq_comm] using h1
        obtain ⟨rfl, rfl⟩ := e1
        have e2 : IntKind.u32 = k2 ∧ ((e.val ρ.s : Nat) : Int) = b' := by simpa [toV] using h2
        obtain ⟨rfl, rfl⟩ := e2
        simp only [intI, decide_true] at h3
        split at h3
        · rename_i q hq
          simp only [Option.some.injEq] at h3; subst h3
          have := run_bits (P := P) w _ _ _ _ _ hq
          simpa [Op.unary, toV, IntKind.signed, IntKind.max, IntKind.bits] using this
        · simp at h3
      · simp at hr
    rename_i k n
    simp only [fUnary] at hr
    split at hr
    · rename_i q hq
      simp only [Option.some.injEq] at hr; subst hr
      have := run_bits (P := P) w _ _ _ _ _ hq
      refine ⟨?_, trivial⟩
      rw [show (match k.signed with | true => (-1 : Int) | false => .ofNat (maxN k)) = if k.signed then -1 else k.max from by
        cases h : k.signed
        · simp only [maxN_int]; rfl
        · rfl] at this
      simpa [Op.unary, toV] using this
    · simp at hr
  case plus => simp [fUnary] at hr

/-! ### nil checks, interfaces, tuples -/
def fNilCheck (v : AV) : Option AV :=
  match v with
  | .ptr _ _ => some v
  | .iface _ _ => some v
  | .func (.func _) _ _ => some v
  | _ => none
theorem nilCheck_sound {o : Oper} {x : Operand} {a : Act} {v r : AV} (ho : o.op = .nilCheck x) (hx : a.eval x = toV ρ v) (hv : okv ρ.d v) (hr : fNilCheck v = some r) :
    (execOp a.eval o).run P w = .ok (.value (toV ρ r)) w ∧ okv ρ.d r := by
  unfold fNilCheck at hr
  split at hr <;> simp only [Option.some.injEq, reduceCtorEq] at hr <;> subst hr <;> refine ⟨?_, hv⟩ <;> simp [execOp, ho, hx, toV]

def fMakeIface (t : TypeId) (v : AV) : Option AV := some (.iface t v)
/-- is the type a concrete one? -/
def concrete (P : Program) (t : TypeId) : Bool :=
  match P.underlying t with
  | some (.interface _) => false
  | some _ => true
  | none => false
theorem makeIface_sound {t : TypeId} {v r : AV} (ht : concrete P t = true) (hv : okv ρ.d v) (hr : fMakeIface t v = some r) :
    (Instr.makeInterface t (toV ρ v)).run P w = .ok (toV ρ r) w ∧ okv ρ.d r := by
  simp only [fMakeIface, Option.some.injEq] at hr; subst hr
  refine ⟨?_, hv⟩
  unfold concrete at ht
  split at ht
  · simp at ht
  · rename_i d hd hu
    cases d <;> first | (exact absurd rfl (hd _)) | simp [Instr.makeInterface, run_underlying hu, toV]
  · simp at ht

def fExtract (i : Nat) (v : AV) : Option AV :=
  match v with
  | .tuple vs => nthL vs i
  | _ => none
theorem extract_sound {i : Nat} {v r : AV} (hv : okv ρ.d v) (hr : fExtract i v = some r) : (Instr.extract (toV ρ v) i).run P w = .ok (toV ρ r) w ∧ okv ρ.d r := by
  cases v <;> try (simp [fExtract] at hr; done)
  simp only [fExtract, nthL_eq] at hr
  refine ⟨?_, (okvs_iff _ _).1 hv r (List.mem_of_getElem? hr)⟩
  simp [Instr.extract, toV, toVs_map, hr]

/-! ### len, cap, min, max -/
def fLen (v : AV) : Option AV :=
  match v with
  | .str len _ => some (.int .i64 (.ofNat len))
  | .lstr _ _ _ => none
  | .snil => some (.int .i64 0)
  | .slice _ _ len _ _ => some (.int .i64 (.ofNat len))
  | .edge _ _ _ => some (.int .i64 0)
  | .aslice _ len _ => some (.int .i64 (.ofNat len))
  | _ => none
def lenKind (P : Program) (t : TypeId) : Bool :=
  match P.underlying t with
  | some .string => true
  | some (.slice _) => true
  | _ => false
theorem len_sound_str {t ty : TypeId} {v r : AV} (ht : P.underlying t = some .string) (hr : (match v with | .str len _ => some (AV.int .i64 (.ofNat len)) | .lstr len _ _ => some (AV.int .i64 (.ofNat len)) | _ => none) = some r) :
    (Builtin.len_ #[t] ty #[toV ρ v]).run P w = .ok (toV ρ r) w ∧ okv ρ.d r := by
  cases v <;> try (simp at hr; done)
  all_goals
    simp only [Option.some.injEq] at hr; subst hr
    exact ⟨by simp [Builtin.len_, run_underlying ht, toV, strOf_size, goInt], trivial⟩
theorem len_sound_sl {t ty e : TypeId} {v r : AV} (ht : P.underlying t = some (.slice e)) (hr : (match v with | .str _ _ => none | v => fLen v) = some r) :
    (Builtin.len_ #[t] ty #[toV ρ v]).run P w = .ok (toV ρ r) w ∧ okv ρ.d r := by
  cases v <;> try (simp [fLen] at hr; done)
  all_goals
    simp only [fLen, Option.some.injEq] at hr; subst hr
    exact ⟨by simp [Builtin.len_, run_underlying ht, toV, goInt], trivial⟩

def fCap (v : AV) : Option AV :=
  match v with
  | .snil => some (.int .i64 0)
  | .slice _ _ _ cap false => some (.int .i64 (.ofNat cap))
  | _ => none
theorem cap_sound {t ty e : TypeId} {v r : AV} (ht : P.underlying t = some (.slice e)) (hr : fCap v = some r) :
    (Builtin.cap_ #[t] ty #[toV ρ v]).run P w = .ok (toV ρ r) w ∧ okv ρ.d r := by
  unfold fCap at hr
  split at hr <;> simp only [Option.some.injEq, reduceCtorEq] at hr <;> subst hr <;>
    exact ⟨by simp [Builtin.cap_, run_underlying ht, toV, goInt], trivial⟩

/-- the least (the greatest) of numbers of one kind -/
def numL (v : AV) : Option (IntKind × Int × List LV) := match v with
  | .int k n => some (k, n, [])
  | .lint k c l => some (k, c, l)
  | _ => none
theorem numL_spec {v : AV} {k : IntKind} {c : Int} {l : List LV} (h : numL v = some (k, c, l)) (ρ : Ren) : toV ρ v = .int k (linV ρ.s c l) ∧ ∀ d, okv d v := by
  cases v <;> simp only [numL, Option.some.injEq, Prod.mk.injEq, reduceCtorEq] at h
  · obtain ⟨rfl, rfl, rfl⟩ := h; exact ⟨rfl, fun _ => trivial⟩
  · obtain ⟨rfl, rfl, rfl⟩ := h; exact ⟨rfl, fun _ => trivial⟩
def lssL (c : Int) (l : List LV) (c' : Int) (l' : List LV) : Option Bool := cmpD .lss (linMn (Int.add c (Int.mul (-1) c')) (addL l (mulL (-1) l'))) (linMx (Int.add c (Int.mul (-1) c')) (addL l (mulL (-1) l')))
theorem lssL_spec {c c' : Int} {l l' : List LV} {b : Bool} (h : lssL c l c' l' = some b) (s : Nat → Int) : decide (linV s c l < linV s c' l') = b := by
  have a := lin_rng s (Int.add c (Int.mul (-1) c')) (addL l (mulL (-1) l'))
  rw [linV_sub] at a
  have := cmpD_spec h a.1 a.2
  simp only [cmpI, ltI_eq, Option.some.injEq] at this
  exact this
def leqL (c : Int) (l : List LV) (c' : Int) (l' : List LV) : Option Bool := cmpD .leq (linMn (Int.add c (Int.mul (-1) c')) (addL l (mulL (-1) l'))) (linMx (Int.add c (Int.mul (-1) c')) (addL l (mulL (-1) l')))
theorem leqL_spec {c c' : Int} {l l' : List LV} {b : Bool} (h : leqL c l c' l' = some b) (s : Nat → Int) : decide (linV s c l ≤ linV s c' l') = b := by
  have a := lin_rng s (Int.add c (Int.mul (-1) c')) (addL l (mulL (-1) l'))
  rw [linV_sub] at a
  have := cmpD_spec h a.1 a.2
  simp only [cmpI, ltI_eq, Option.some.injEq] at this
  rw [← this, le_not_lt]
def pickL (mx : Bool) (x y : AV) : Option AV := match numL x with
  | some (k, c, l) => match numL y with
    | some (k', c', l') => match decide (k = k') with
      | true => match (match mx with | true => lssL c l c' l' | false => lssL c' l' c l) with
        | some true => some y
        | some false => some x
        | none => match (match mx with | true => leqL c l c' l' | false => leqL c' l' c l) with
          | some true => some y
          | _ => none
      | false => none
    | none => none
  | none => none
def pickM (mx : Bool) (x y : AV) : Option AV := match x with
  | .int k a => match y with
    | .int _ b => match (match mx with | true => ltI a b | false => ltI b a) with
      | true => some (.int k b)
      | false => some (.int k a)
    | _ => pickL mx x y
  | _ => pickL mx x y
def pickZ (mx : Bool) (a b : Int) : Int := if mx then (if a < b then b else a) else (if b < a then b else a)
theorem pickL_spec {mx : Bool} {x y z : AV} (h : pickL mx x y = some z) (ρ : Ren) : ∃ k a k' b, toV ρ x = .int k a ∧ toV ρ y = .int k' b ∧ toV ρ z = .int k (pickZ mx a b) ∧ okv ρ.d z := by
  unfold pickL at h
  split at h <;> try (simp at h; done)
  rename_i k c l hx
  split at h <;> try (simp at h; done)
  rename_i k' c' l' hy
  split at h <;> try (simp at h; done)
  rename_i hk
  have hk := of_decide_eq_true hk
  subst hk
  obtain ⟨x1, x2⟩ := numL_spec hx ρ
  obtain ⟨y1, y2⟩ := numL_spec hy ρ
  refine ⟨_, _, _, _, x1, y1, ?_⟩
  split at h
  · rename_i e
    simp only [Option.some.injEq] at h; subst h
    refine ⟨?_, y2 _⟩
    rw [y1]
    congr 1
    cases mx
    · have e := of_decide_eq_true (lssL_spec e ρ.s); simp only [pickZ, Bool.false_eq_true, if_false]; rw [if_pos e]
    · have e := of_decide_eq_true (lssL_spec e ρ.s); simp only [pickZ, if_true]; rw [if_pos e]
  · rename_i e
    simp only [Option.some.injEq] at h; subst h
    refine ⟨?_, x2 _⟩
    rw [x1]
    congr 1
    cases mx
    · have e := of_decide_eq_false (lssL_spec e ρ.s); simp only [pickZ, Bool.false_eq_true, if_false]; rw [if_neg e]
    · have e := of_decide_eq_false (lssL_spec e ρ.s); simp only [pickZ, if_true]; rw [if_neg e]
  · split at h
    · rename_i e
      simp only [Option.some.injEq] at h; subst h
      refine ⟨?_, y2 _⟩
      rw [y1]
      congr 1
      cases mx
      · have e := of_decide_eq_true (leqL_spec e ρ.s); simp only [pickZ, Bool.false_eq_true, if_false]; split <;> omega
      · have e := of_decide_eq_true (leqL_spec e ρ.s); simp only [pickZ, if_true]; split <;> omega
    · simp at h
theorem pickM_spec {mx : Bool} {x y z : AV} (h : pickM mx x y = some z) (ρ : Ren) : ∃ k a k' b, toV ρ x = .int k a ∧ toV ρ y = .int k' b ∧ toV ρ z = .int k (pickZ mx a b) ∧ okv ρ.d z := by
  unfold pickM at h
  split at h
  · split at h
    · rename_i k a k' b
      refine ⟨_, _, _, _, rfl, rfl, ?_⟩
      split at h
      · rename_i e
        simp only [Option.some.injEq] at h; subst h
        refine ⟨?_, trivial⟩
        cases mx
        · simp only [ltI_eq] at e; have e := of_decide_eq_true e; simp only [pickZ, Bool.false_eq_true, if_false, toV]; rw [if_pos e]
        · simp only [ltI_eq] at e; have e := of_decide_eq_true e; simp only [pickZ, if_true, toV]; rw [if_pos e]
      · rename_i e
        simp only [Option.some.injEq] at h; subst h
        refine ⟨?_, trivial⟩
        cases mx
        · simp only [ltI_eq] at e; have e := of_decide_eq_false e; simp only [pickZ, Bool.false_eq_true, if_false, toV]; rw [if_neg e]
        · simp only [ltI_eq] at e; have e := of_decide_eq_false e; simp only [pickZ, if_true, toV]; rw [if_neg e]
    · exact pickL_spec h ρ
  · exact pickL_spec h ρ
def fMin (mx : Bool) : AV → List AV → Option AV
  | x, [] => match x with
    | .int _ _ => some x
    | .lint _ _ _ => some x
    | _ => none
  | x, y :: l => match pickM mx x y with
    | some z => fMin mx z l
    | none => none
theorem fMin_ok (mx : Bool) : ∀ (l : List AV) (x r : AV), fMin mx x l = some r → okv ρ.d r
  | [], x, r, hr => by
    cases x <;> simp [fMin] at hr <;> (subst hr; trivial)
  | y :: l, x, r, hr => by
    simp only [fMin] at hr
    split at hr
    · exact fMin_ok mx l _ r hr
    · simp at hr
theorem min_sound : ∀ (l : List AV) (x r : AV), fMin false x l = some r → ((l.map (toV ρ)).foldlM Builtin.min2 (toV ρ x)).run P w = .ok (toV ρ r) w
  | [], x, r, hr => by
    cases x <;> simp [fMin] at hr <;> (subst hr; rfl)
  | y :: l, x, r, hr => by
    simp only [fMin] at hr
    split at hr
    · rename_i z hz
      obtain ⟨k, a, k', b, h1, h2, h3, _⟩ := pickM_spec hz ρ
      have := min_sound l z r hr
      rw [h3] at this
      simp only [List.map_cons, List.foldlM_cons, Sem.run_bind, h1, h2, Builtin.min2, Sem.run_pure, Result.andThen_ok]
      simp only [pickZ, Bool.false_eq_true, if_false] at this
      exact this
    · simp at hr
theorem max_sound : ∀ (l : List AV) (x r : AV), fMin true x l = some r → ((l.map (toV ρ)).foldlM Builtin.max2 (toV ρ x)).run P w = .ok (toV ρ r) w
  | [], x, r, hr => by
    cases x <;> simp [fMin] at hr <;> (subst hr; rfl)
  | y :: l, x, r, hr => by
    simp only [fMin] at hr
    split at hr
    · rename_i z hz
      obtain ⟨k, a, k', b, h1, h2, h3, _⟩ := pickM_spec hz ρ
      have := max_sound l z r hr
      rw [h3] at this
      simp only [List.map_cons, List.foldlM_cons, Sem.run_bind, h1, h2, Builtin.max2, Sem.run_pure, Result.andThen_ok]
      simp only [pickZ, if_true] at this
      exact this
    · simp at hr

/-! ### unsafe.SliceData -/
def fSliceData (v : AV) : Option AV :=
  match v with
  | .snil => some .nilp
  | .slice b o _ cap _ => match Nat.beq cap 0 with
    | true => none
    | false => some (.ptr b o)
  | _ => none
theorem sliceData_sound {tys : Array TypeId} {ty : TypeId} {v r : AV} (hv : okv ρ.d v) (hr : fSliceData v = some r) :
    (Builtin.unsafeSliceData_ tys ty #[toV ρ v]).run P w = .ok (toV ρ r) w ∧ okv ρ.d r := by
  cases v <;> try (simp [fSliceData] at hr; done)
  · simp only [fSliceData, Option.some.injEq] at hr; subst hr
    exact ⟨rfl, trivial⟩
  · rename_i b o len cap opn
    simp only [fSliceData] at hr
    split at hr
    · simp at hr
    · rename_i hc
      rw [beq_eq, decide_eq_false_iff_not] at hc
      simp only [Option.some.injEq] at hr; subst hr
      refine ⟨?_, hv⟩
      have hne : (if opn = true then cap + ρ.e b else cap) ≠ 0 := by split <;> omega
      show Sem.run P (if (if opn = true then cap + ρ.e b else cap) ≠ 0 then pure (Value.pointer (some ⟨ρ.m b, o, none⟩)) else _) w = _
      rw [if_pos hne]
      rfl

/-! ### aggregates -/
/-- the cells of a type's zero value -/
def zeroA (P : Program) (t : TypeId) : Option (List AV) :=
  match P.info? t with
  | some i => match i.zero with
    | some z => constsS z.cells.toList
    | none => none
  | none => none
theorem zeroA_spec {t : TypeId} {l : List AV} (hz : zeroA P t = some l) : ∃ i z, P.info? t = some i ∧ i.zero = some z ∧ (∀ ρ : Ren, (l.map (toV ρ)).toArray = z.cells) ∧ ∀ d, okvs d l := by
  unfold zeroA at hz
  split at hz
  · rename_i i hi
    split at hz
    · rename_i z hzz
      refine ⟨i, z, hi, hzz, fun ρ => ?_, fun d => (constsS_sound hz ⟨id, d, id, fun _ => 0⟩ d).2⟩
      rw [(constsS_sound hz ρ (fun _ => True)).1, Array.toArray_toList]
    · simp at hz
  · simp at hz

/-- the places of a struct's (an array's) parts: offsets and sizes; and its zero's cells -/
def placeOf (P : Program) (t : TypeId) (i : Nat) : Option (Nat × Nat) :=
  match P.underlying t with
  | some (.struct fs) => match nthL fs.toList i with
    | some f => match P.info? f.type with
      | some j => some (f.offset, j.size)
      | none => none
    | none => none
  | some (.array _ e) => match P.info? e with
    | some j => some (Nat.mul i j.size, j.size)
    | none => none
  | _ => none
/-- every field's type is there -/
def fieldsIn (P : Program) (t : TypeId) : Bool :=
  match P.underlying t with
  | some (.struct fs) => fs.toList.all fun f => (P.info? f.type).isSome
  | some (.array _ e) => (P.info? e).isSome
  | _ => false
def zipParts (P : Program) (t : TypeId) : List (Nat × AV) → Option (List (Nat × Nat × AV))
  | [] => some []
  | (i, v) :: l => match placeOf P t i with
    | some (off, size) => match zipParts P t l with
      | some r => some ((off, size, v) :: r)
      | none => none
    | none => none
theorem zipParts_spec {t : TypeId} : ∀ (l : List (Nat × AV)) (r : List (Nat × Nat × AV)), zipParts P t l = some r →
    (l.map fun p => (placeOf P t p.1).map fun q => (q.1, q.2, p.2)) = r.map some
  | [], r, hr => by simp only [zipParts, Option.some.injEq] at hr; subst hr; rfl
  | (i, v) :: l, r, hr => by
    simp only [zipParts] at hr
    split at hr
    · rename_i off size hp
      split at hr
      · rename_i q hq
        simp only [Option.some.injEq] at hr; subst hr
        simp [hp, zipParts_spec l q hq]
      · simp at hr
    · simp at hr

theorem run_mapM_places {fs : List Field} (hin : ∀ f ∈ fs, (P.info? f.type).isSome = true) :
    (fs.mapM (fun f => do pure (f.offset, ← sizeOf f.type) : Field → Sem (Nat × Nat))).run P w = .ok (fs.map fun f => (f.offset, P.cellsOf f.type)) w := by
  induction fs with
  | nil => rfl
  | cons f fs ih =>
    have hf := hin f (List.mem_cons_self ..)
    obtain ⟨i, hi⟩ := Option.isSome_iff_exists.1 hf
    simp only [List.mapM_cons, Sem.run_bind, sizeOf, run_typeInfo _ hi, Result.andThen_ok, Sem.run_pure]
    have ih' := ih (fun f hf => hin f (List.mem_cons_of_mem _ hf))
    simp only [sizeOf] at ih'
    rw [ih']
    simp [Program.cellsOf, hi]

def fBuild (zero : List AV) (qs : List (Nat × Nat × AV)) : Option AV :=
  match fillA qs zero with
  | some l => some (.agg l)
  | none => none

theorem build_sound {t : TypeId} {zero : List AV} {ps : List (Nat × AV)} {qs : List (Nat × Nat × AV)} {r : AV} (hz : zeroA P t = some zero) (hin : fieldsIn P t = true)
    (hq : zipParts P t ps = some qs) (hp : ∀ p ∈ ps, okv ρ.d p.2) (hr : fBuild zero qs = some r) :
    (Instr.build t ((ps.map fun p => (p.1, toV ρ p.2)).toArray)).run P w = .ok (toV ρ r) w ∧ okv ρ.d r := by
  obtain ⟨i, z, hi, hzz, hzc, hzo⟩ := zeroA_spec hz
  unfold fBuild at hr
  split at hr
  · rename_i l hl
    simp only [Option.some.injEq] at hr; subst hr
    obtain ⟨h1, h2⟩ := fillA_sound (ρ := ρ) (placeOf P t) ps zero qs l (zipParts_spec ps qs hq) hp (hzo _) hl
    rw [hzc ρ] at h1
    refine ⟨?_, h2⟩
    unfold fieldsIn at hin
    have hzr : (zeroValue t).run P w = .ok z w := by simp [zeroValue, run_typeInfo _ hi, hzz]
    split at hin
    · rename_i fs hu
      have hm := run_mapM_places (P := P) (w := w) (fs := fs.toList) (fun f hf => List.all_eq_true.1 hin f hf)
      have hpl : placeOf P t = fun k => ((fs.toList.map fun f => (f.offset, P.cellsOf f.type)).toArray)[k]? := by
        funext k
        simp only [placeOf, hu, nthL_eq]
        rw [List.getElem?_toArray, List.getElem?_map]
        cases hk : fs.toList[k]? with
        | none => rfl
        | some f =>
          obtain ⟨j, hj⟩ := Option.isSome_iff_exists.1 (List.all_eq_true.1 hin f (List.mem_of_getElem? hk))
          simp [hj, Program.cellsOf]
      rw [hpl] at h1
      simp only [Instr.build, Sem.run_bind, hzr, Result.andThen_ok, run_underlying hu]
      rw [← Array.toArray_toList (xs := fs), List.mapM_toArray]
      simp only [Sem.run_map, hm, Result.andThen_ok]
      simp only [h1, Sem.run_pure, toV, toVs_map]
    · rename_i n e hu
      obtain ⟨j, hj⟩ := Option.isSome_iff_exists.1 hin
      have hpl : placeOf P t = fun k => some (k * j.size, j.size) := by
        funext k; simp only [placeOf, hu, hj]; rfl
      rw [hpl] at h1
      simp only [Instr.build, Sem.run_bind, hzr, Result.andThen_ok, run_underlying hu, sizeOf, run_typeInfo _ hj, Sem.run_pure, h1, toV, toVs_map]
    · simp at hin
  · simp at hr

end
end Go.Vai
