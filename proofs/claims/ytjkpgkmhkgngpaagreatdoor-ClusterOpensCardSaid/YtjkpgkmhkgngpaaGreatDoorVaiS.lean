/- Builtins and calls made ready. -/
import Derived.Test.YtjkpgkmhkgngpaaGreatDoorVaiTb
namespace Go.Vai
open Go.RowKit

section
variable (P : Program) (G N : Nat)

/-! ### builtins -/
noncomputable def cLen (ty : TypeId) (x : Operand) : OC := o1 G N x fun f => match P.underlying ty with
  | some .string => .pure fun t => match f t with
    | .str len _ => some (.int .i64 (.ofNat len))
    | .lstr len _ _ => some (.int .i64 (.ofNat len))
    | _ => none
  | some (.slice _) => .pure fun t => match f t with
    | .str _ _ => none
    | v => fLen v
  | some (.array n _) => .pure fun _ => some (.int .i64 (.ofNat n))
  | some (.pointer ar) => match P.underlying ar with
    | some (.array n _) => .pure fun _ => some (.int .i64 (.ofNat n))
    | _ => .bad 50
  | _ => .bad 51
noncomputable def cCap (ty : TypeId) (x : Operand) : OC := o1 G N x fun f => match P.underlying ty with
  | some (.slice _) => .pure fun t => fCap (f t)
  | _ => .bad 52
noncomputable def cMin (mx : Bool) (xs : List Operand) : OC := os G N xs fun fs => .pure fun t => match evs fs t with
  | x :: l => fMin mx x l
  | [] => none
/-- what is appended, by its type -/
def xkOf (P : Program) (t2 k : Nat) (zl : List AV) : Option XK := match P.underlying t2 with
  | some (.slice _) => some .slice
  | some .string => match Nat.beq k 1 with
    | true => some .str
    | false => none
  | some (.int _) => some (.zeros zl)
  | _ => none
noncomputable def appendE (e k bytes : Nat) (xk : XK) (s x : AV) (h : Hp) (n : Nat) : ER := match fNews xk k h x with
  | some (m, news) => fAppend G e k bytes h n s m news
  | none => .no
noncomputable def cAppend (t t2 : TypeId) (s x : Operand) : OC := match elemZ P t with
  | some (e, k, bytes, zl) => match Nat.beq k 0 with
    | false => match xkOf P t2 k zl with
      | some xk => o1 G N s fun fs => o1 G N x fun fx => .eff fun t h n => appendE G e k bytes xk (fs t) (fx t) h n
      | none => .bad 53
    | true => .bad 54
  | none => .bad 55
noncomputable def copyE (k : Nat) (d x : AV) (h : Hp) (n : Nat) : ER := match fCopy G k h d x with
  | some (m, h') => .ok (.int .i64 (.ofNat m)) h' n
  | none => .no
noncomputable def cCopy (t : TypeId) (d x : Operand) : OC := match P.underlying t with
  | some (.slice e) => match P.info? e with
    | some i => o1 G N d fun fd => o1 G N x fun fx => .eff fun t h n => copyE G i.size (fd t) (fx t) h n
    | none => .bad 56
  | _ => .bad 57
noncomputable def cSliceData (x : Operand) : OC := o1 G N x fun f => .pure fun t => fSliceData (f t)
noncomputable def unsafeStringE (u : Nat) (p x : AV) (h : Hp) (n : Nat) : ER := match fUnsafeString G u h p x with
  | some (v, h') => .ok v h' n
  | none => .no
noncomputable def cUnsafeString (pt : TypeId) (p x : Operand) : OC := match P.underlying pt with
  | some (.pointer u) => match P.info? u with
    | some j => match Nat.beq j.size 1 with
      | true => o1 G N p fun fp => o1 G N x fun fx => .eff fun t h n => unsafeStringE G u (fp t) (fx t) h n
      | false => .bad 58
    | none => .bad 59
  | _ => .bad 60
noncomputable def cBuiltin (b : Builtin) (tys : List TypeId) (args : List Operand) : OC := match b with
  | .len => match tys, args with
    | [ty], [x] => cLen P G N ty x
    | _, _ => .bad 61
  | .cap => match tys, args with
    | [ty], [x] => cCap P G N ty x
    | _, _ => .bad 62
  | .min => cMin G N false args
  | .max => cMin G N true args
  | .append => match tys, args with
    | [t, t2], [s, x] => cAppend P G N t t2 s x
    | _, _ => .bad 63
  | .copy => match tys, args with
    | [t, _], [d, x] => cCopy P G N t d x
    | _, _ => .bad 64
  | .unsafeSliceData => match args with
    | [x] => cSliceData G N x
    | _ => .bad 65
  | .unsafeString => match tys, args with
    | pt :: _, [p, x] => cUnsafeString P G N pt p x
    | _, _ => .bad 66
  | .delete => match tys, args with
    | [t, _], [m, k] => cDelete P G N t m k
    | _, _ => .bad 68
  | .clear => match tys, args with
    | [t], [m] => cClear P G N t m
    | _, _ => .bad 69
  | _ => .bad 67
end

section
variable {P : Program} {G N : Nat} {o : Oper}

theorem run_builtinCall {P : Program} {w : World} {a : Act} {b : Builtin} {args : Array Operand} {tys : Array TypeId} (ho : o.op = .call { callee := .builtin b, args, argTypes := tys }) :
    ∃ cs, (execOp a.eval o).run P w = (builtin b tys o.type cs (args.map a.eval)).run P w := by
  exact ⟨args.map fun | .const _ => true | _ => false, by simp only [execOp, ho, resolve, Sem.run_bind, Sem.run_pure, Result.andThen_ok, invoke]; rfl⟩

theorem arr1 {α : Type} {xs : Array α} {x : α} (h : xs.toList = [x]) : xs = #[x] := by apply Array.ext'; simpa using h
theorem arr2 {α : Type} {xs : Array α} {x y : α} (h : xs.toList = [x, y]) : xs = #[x, y] := by apply Array.ext'; simpa using h

theorem cLen_ok {ty : TypeId} {x : Operand} (ho : o.op = .call { callee := .builtin .len, args := #[x], argTypes := #[ty] }) : OpOK P G N o (cLen P G N ty x) := by
  refine o1_ok fun f hf => ?_
  split
  · rename_i ht
    intro w0 ρ h nx w t a v H R hv
    obtain ⟨h1, h2⟩ := opnd_sound H R hf
    obtain ⟨cs, hc⟩ := run_builtinCall (P := P) (w := w) (a := a) ho
    obtain ⟨h3, h4⟩ := len_sound_str (P := P) (ρ := ρ) (w := w) (ty := o.type) ht hv
    exact ⟨by rw [hc]; simp only [List.map_toArray, List.map_cons, List.map_nil, h2, builtin]; exact run_v_ok h3, h4⟩
  · rename_i e ht
    intro w0 ρ h nx w t a v H R hv
    obtain ⟨h1, h2⟩ := opnd_sound H R hf
    obtain ⟨cs, hc⟩ := run_builtinCall (P := P) (w := w) (a := a) ho
    obtain ⟨h3, h4⟩ := len_sound_sl (P := P) (ρ := ρ) (w := w) (ty := o.type) ht hv
    exact ⟨by rw [hc]; simp only [List.map_toArray, List.map_cons, List.map_nil, h2, builtin]; exact run_v_ok h3, h4⟩
  · rename_i n e ht
    intro w0 ρ h nx w t a v H R hv
    simp only [Option.some.injEq] at hv; subst hv
    obtain ⟨cs, hc⟩ := run_builtinCall (P := P) (w := w) (a := a) ho
    refine ⟨?_, trivial⟩
    rw [hc]
    simp only [List.map_toArray, List.map_cons, List.map_nil, builtin]
    refine run_v_ok ?_
    generalize a.eval x = q
    cases q <;> simp [Builtin.len_, run_underlying ht, toV, goInt]
  · rename_i ar ht
    split
    · rename_i n e ht2
      intro w0 ρ h nx w t a v H R hv
      simp only [Option.some.injEq] at hv; subst hv
      obtain ⟨cs, hc⟩ := run_builtinCall (P := P) (w := w) (a := a) ho
      refine ⟨?_, trivial⟩
      rw [hc]
      simp only [List.map_toArray, List.map_cons, List.map_nil, builtin]
      refine run_v_ok ?_
      generalize a.eval x = q
      cases q <;> simp [Builtin.len_, run_underlying ht, run_underlying ht2, toV, goInt]
    · trivial
  · trivial

theorem cCap_ok {ty : TypeId} {x : Operand} (ho : o.op = .call { callee := .builtin .cap, args := #[x], argTypes := #[ty] }) : OpOK P G N o (cCap P G N ty x) := by
  refine o1_ok fun f hf => ?_
  split
  · rename_i e ht
    intro w0 ρ h nx w t a v H R hv
    obtain ⟨h1, h2⟩ := opnd_sound H R hf
    obtain ⟨cs, hc⟩ := run_builtinCall (P := P) (w := w) (a := a) ho
    obtain ⟨h3, h4⟩ := cap_sound (P := P) (ρ := ρ) (w := w) (ty := o.type) ht hv
    exact ⟨by rw [hc]; simp only [List.map_toArray, List.map_cons, List.map_nil, h2, builtin]; exact run_v_ok h3, h4⟩
  · trivial

theorem cMin_ok {mx : Bool} {xs : Array Operand} {tys : Array TypeId} (ho : o.op = .call { callee := .builtin (match mx with | true => .max | false => .min), args := xs, argTypes := tys }) :
    OpOK P G N o (cMin G N mx xs.toList) := by
  refine os_ok fun fs hfs => ?_
  intro w0 ρ h nx w t a v H R hv
  obtain ⟨h1, h2⟩ := opnds_sound H R hfs
  obtain ⟨cs, hc⟩ := run_builtinCall (P := P) (w := w) (a := a) ho
  dsimp only at hv
  split at hv
  · rename_i x l hl
    rw [hl] at h2
    have e : (xs.map a.eval).toList = toV ρ x :: l.map (toV ρ) := by simpa using h2
    refine ⟨?_, fMin_ok mx l x v hv⟩
    rw [hc]
    cases mx
    · simp only [builtin, Builtin.min_]
      refine run_v_ok ?_
      rw [e]
      exact min_sound (P := P) (w := w) l x v hv
    · simp only [builtin, Builtin.max_]
      refine run_v_ok ?_
      rw [e]
      exact max_sound (P := P) (w := w) l x v hv
  · simp at hv

theorem xkOf_spec {t2 k : Nat} {zl : List AV} {xk : XK} (h : xkOf P t2 k zl = some xk) :
    match (generalizing := false) xk with | .slice => ∃ e2, P.underlying t2 = some (.slice e2) | .str => P.underlying t2 = some .string ∧ k = 1 | .zeros zl' => (∃ k2, P.underlying t2 = some (.int k2)) ∧ zl' = zl := by
  unfold xkOf at h
  split at h
  · rename_i e he
    simp only [Option.some.injEq] at h; subst h
    exact ⟨e, he⟩
  · rename_i he
    split at h
    · rename_i hk
      rw [Nat.beq_eq] at hk
      simp only [Option.some.injEq] at h; subst h
      exact ⟨he, hk⟩
    · simp at h
  · rename_i k2 he
    simp only [Option.some.injEq] at h; subst h
    exact ⟨⟨k2, he⟩, rfl⟩
  · simp at h

theorem cAppend_ok {t t2 : TypeId} {s x : Operand} (ho : o.op = .call { callee := .builtin .append, args := #[s, x], argTypes := #[t, t2] }) : OpOK P G N o (cAppend P G N t t2 s x) := by
  unfold cAppend; split
  · rename_i e k bytes zl ht
    split
    · rename_i hk
      rw [beq_eq, decide_eq_false_iff_not] at hk
      split
      · rename_i xk hxk
        refine o1_ok fun fs hs => o1_ok fun fx hx => ?_
        intro w0 ρ h nx w tm a v h' nx' H R hv
        obtain ⟨s1, s2⟩ := opnd_sound H R hs
        obtain ⟨x1, x2⟩ := opnd_sound H R hx
        obtain ⟨cs, hc⟩ := run_builtinCall (P := P) (w := w) (a := a) ho
        unfold appendE at hv
        dsimp only at hv
        split at hv
        · rename_i m news hn
          obtain ⟨ρ', w', q1, q2, q3, q4⟩ := append_sound (P := P) (ty := o.type) H ht hk (xkOf_spec hxk) s1 x1 hn hv
          exact ⟨ρ', w', .inl (by rw [hc]; simp only [List.map_toArray, List.map_cons, List.map_nil, s2, x2, builtin]; exact run_v_ok q1), q2, q3, q4⟩
        · simp at hv
      · trivial
    · trivial
  · trivial

theorem cCopy_ok {t t2 : TypeId} {d x : Operand} (ho : o.op = .call { callee := .builtin .copy, args := #[d, x], argTypes := #[t, t2] }) : OpOK P G N o (cCopy P G N t d x) := by
  unfold cCopy; split
  · rename_i e hu
    split
    · rename_i i hi
      refine o1_ok fun fd hd => o1_ok fun fx hx => ?_
      intro w0 ρ h nx w tm a v h' nx' H R hv
      obtain ⟨d1, d2⟩ := opnd_sound H R hd
      obtain ⟨x1, x2⟩ := opnd_sound H R hx
      obtain ⟨cs, hc⟩ := run_builtinCall (P := P) (w := w) (a := a) ho
      unfold copyE at hv
      dsimp only at hv
      split at hv
      · rename_i m h2 hcp
        simp only [ER.ok.injEq] at hv
        obtain ⟨rfl, rfl, rfl⟩ := hv
        obtain ⟨ρ', w', q1, q2, q3, q4⟩ := copy_sound (P := P) (t2 := t2) (ty := o.type) H hu hi d1 x1 hcp
        exact ⟨ρ', w', .inl (by rw [hc]; simp only [List.map_toArray, List.map_cons, List.map_nil, d2, x2, builtin]; exact run_v_ok q1), q2, q3, q4⟩
      · simp at hv
    · trivial
  · trivial

theorem cSliceData_ok {x : Operand} {tys : Array TypeId} (ho : o.op = .call { callee := .builtin .unsafeSliceData, args := #[x], argTypes := tys }) : OpOK P G N o (cSliceData G N x) := by
  refine o1_ok fun f hf => ?_
  intro w0 ρ h nx w t a v H R hv
  obtain ⟨h1, h2⟩ := opnd_sound H R hf
  obtain ⟨cs, hc⟩ := run_builtinCall (P := P) (w := w) (a := a) ho
  obtain ⟨h3, h4⟩ := sliceData_sound (P := P) (w := w) (tys := tys) (ty := o.type) h1 hv
  exact ⟨by rw [hc]; simp only [List.map_toArray, List.map_cons, List.map_nil, h2, builtin]; exact run_v_ok h3, h4⟩

theorem cUnsafeString_ok {pt : TypeId} {tys : Array TypeId} {p x : Operand} (h0 : tys[0]? = some pt) (ho : o.op = .call { callee := .builtin .unsafeString, args := #[p, x], argTypes := tys }) :
    OpOK P G N o (cUnsafeString P G N pt p x) := by
  unfold cUnsafeString; split
  · rename_i u hu
    split
    · rename_i j hj
      split
      · rename_i hj1
        rw [Nat.beq_eq] at hj1
        refine o1_ok fun fp hp => o1_ok fun fx hx => ?_
        intro w0 ρ h nx w tm a v h' nx' H R hv
        obtain ⟨p1, p2⟩ := opnd_sound H R hp
        obtain ⟨x1, x2⟩ := opnd_sound H R hx
        obtain ⟨cs, hc⟩ := run_builtinCall (P := P) (w := w) (a := a) ho
        unfold unsafeStringE at hv
        dsimp only at hv
        split at hv
        · rename_i v2 h2 hcp
          simp only [ER.ok.injEq] at hv
          obtain ⟨rfl, rfl, rfl⟩ := hv
          obtain ⟨ρ', w', q1, q2, q3, q4⟩ := unsafeString_sound (P := P) (ty := o.type) H h0 hu hj hj1 p1 hcp
          exact ⟨ρ', w', .inl (by rw [hc]; simp only [List.map_toArray, List.map_cons, List.map_nil, p2, x2, builtin]; exact run_v_ok q1), q2, q3, q4⟩
        · simp at hv
      · trivial
    · trivial
  · trivial

theorem cBuiltin_ok {b : Builtin} {tys : Array TypeId} {args : Array Operand} (ho : o.op = .call { callee := .builtin b, args, argTypes := tys }) : OpOK P G N o (cBuiltin P G N b tys.toList args.toList) := by
  unfold cBuiltin
  split
  · split
    · rename_i ty x h1 h2
      rw [arr1 h1, arr1 h2] at ho
      exact cLen_ok ho
    · trivial
  · split
    · rename_i ty x h1 h2
      rw [arr1 h1, arr1 h2] at ho
      exact cCap_ok ho
    · trivial
  · exact cMin_ok (mx := false) ho
  · exact cMin_ok (mx := true) ho
  · split
    · rename_i t t2 s x h1 h2
      rw [arr2 h1, arr2 h2] at ho
      exact cAppend_ok ho
    · trivial
  · split
    · rename_i t t2 d x h1 h2
      rw [arr2 h1, arr2 h2] at ho
      exact cCopy_ok ho
    · trivial
  · split
    · rename_i x h2
      rw [arr1 h2] at ho
      exact cSliceData_ok ho
    · trivial
  · split
    · rename_i pt l p x h1 h2
      rw [arr2 h2] at ho
      exact cUnsafeString_ok (by rw [← Array.getElem?_toList, h1]; rfl) ho
    · trivial
  · split
    · rename_i t kt m k h1 h2
      rw [arr2 h1, arr2 h2] at ho
      exact cDelete_ok (kt := kt) ho fun w a => run_builtinCall (P := P) (w := w) (a := a) ho
    · trivial
  · split
    · rename_i t m h1 h2
      rw [arr1 h1, arr1 h2] at ho
      exact cClear_ok ho fun w a => run_builtinCall (P := P) (w := w) (a := a) ho
    · trivial
  · trivial
end
end Go.Vai
