/- Calls made ready. -/
import Derived.Test.YtjkpgkmhkgngpaaGreatDoorVaiS
namespace Go.Vai
open Go.RowKit

section
variable (P : Program) (G N : Nat)

/-- has the function a body to be entered? -/
def hasBody (P : Program) (f : FuncId) : Bool := match P.funcs[f]? with
  | some fn => and fn.body.isSome (not (fn.name == "runtime.NumGoroutine"))
  | none => false

/-! ### which method -/
/-- the parts that lead to an embedded value -/
def followA (P : Program) : List FieldStep → TypeId → Option (List (Bool × Nat × Nat) × TypeId)
  | [], t => some ([], t)
  | s :: rest, _ => match s.deref with
    | true => none
    | false => match fieldOf P s.struct s.index with
      | none => none
      | some fd => match tInfo P fd.type with
        | none => none
        | some (agg, k) => match followA P rest fd.type with
          | none => none
          | some (l, t) => some ((agg, k, fd.offset) :: l, t)
def walkA : List (Bool × Nat × Nat) → AV → Option AV
  | [], v => some v
  | (agg, k, off) :: l, v => match v with
    | .agg cs => match partA agg k off cs with
      | some r => walkA l r
      | none => none
    | _ => none
/-- is a receiver of the type handed on as it is? -/
def asIs (P : Program) (t : TypeId) (ptrRecv : Bool) : Bool := match P.underlying t with
  | some (.pointer _) => ptrRecv
  | some _ => not ptrRecv
  | none => false
def methodA (P : Program) (t : TypeId) (name : String) : Option (FuncId × List (Bool × Nat × Nat)) := match P.info? t with
  | none => none
  | some i => match i.methods.find? (·.name == name) with
    | none => none
    | some m => match m.func with
      | none => none
      | some (f, pr) => match followA P m.path.toList t with
        | none => none
        | some (l, xt) => match asIs P xt pr with
          | true => match hasBody P f with
            | true => some (f, l)
            | false => none
          | false => none

/-- the call of a method of an interface value -/
noncomputable def callMethodA (P : Program) (self : Self) (recv : AV) (name : String) (args : List AV) (h : Hp) (n : Nat) (k : KV) : Ans := match recv with
  | .iface t v => match methodA P t name with
    | some (f, l) => match walkA l v with
      | some r => self f (r :: args) h n k
      | none => .no 100
    | none => .no 101
  | _ => .no 102
/-- the call of a function value -/
noncomputable def callFnA (P : Program) (self : Self) (fn : Fn) (first captured args : List AV) (h : Hp) (n : Nat) (k : KV) : Ans := match fn with
  | .func f => match hasBody P f with
    | true => self f (first ++ args ++ captured) h n k
    | false => .no 103
  | .method name => match first ++ args with
    | recv :: rest => callMethodA P self recv name rest h n k
    | [] => .no 104
  | _ => .no 105
noncomputable def callValA (P : Program) (self : Self) (v : AV) (args : List AV) (h : Hp) (n : Nat) (k : KV) : Ans := match v with
  | .func fn first captured => callFnA P self fn first captured args h n k
  | _ => .no 106

noncomputable def cCallVal (x : Operand) (args : List Operand) : OC := o1 G N x fun f => os G N args fun fs => .call fun self t h n k => callValA P self (f t) (evs fs t) h n k
noncomputable def cInvoke (x : Operand) (name : String) (args : List Operand) : OC := o1 G N x fun f => os G N args fun fs => .call fun self t h n k => callMethodA P self (f t) name (evs fs t) h n k
noncomputable def cCallBody (f : FuncId) (args : List Operand) : OC := os G N args fun fs => .call fun self t h n k => self f (evs fs t) h n k
end

section
variable {P : Program} {G N : Nat} {o : Oper} {w0 : Base} {ρ : Ren} {h : Hp} {nx : Nat} {w : World}

theorem run_callFunc {f : FuncId} {args : Array Value} (hb : hasBody P f = true) : (callFunc f args).run P w = .ok (.enter f args) w := by
  unfold hasBody at hb
  split at hb
  · rename_i fn hf
    simp only [Bool.and_eq_true, Bool.not_eq_true', beq_eq_false_iff_ne] at hb
    obtain ⟨h1, h2⟩ := hb
    have h3 : ¬ (fn.body = none) := by intro e; rw [e] at h1; simp at h1
    simp [callFunc, hf, h2, h3]
  · simp at hb

theorem follow_sound : ∀ (path : List FieldStep) (t : TypeId) (l : List (Bool × Nat × Nat)) (xt : TypeId) (v r : AV), followA P path t = some (l, xt) → walkA l v = some r → okv ρ.d v →
    (follow path t (.val (toV ρ v))).run P w = .ok (xt, .val (toV ρ r)) w ∧ okv ρ.d r
  | [], t, l, xt, v, r, hf, hw, hv => by
    simp only [followA, Option.some.injEq, Prod.mk.injEq] at hf
    obtain ⟨rfl, rfl⟩ := hf
    simp only [walkA, Option.some.injEq] at hw; subst hw
    exact ⟨rfl, hv⟩
  | s :: rest, t, l, xt, v, r, hf, hw, hv => by
    simp only [followA] at hf
    split at hf
    · simp at hf
    · rename_i hd
      split at hf
      · simp at hf
      · rename_i fd hfd
        split at hf
        · simp at hf
        · rename_i agg k ht
          split at hf
          · simp at hf
          · rename_i l' t' hfo
            simp only [Option.some.injEq, Prod.mk.injEq] at hf
            obtain ⟨rfl, rfl⟩ := hf
            obtain ⟨fs, hu, hfs⟩ := fieldOf_spec hfd
            cases v <;> try (simp [walkA] at hw; done)
            rename_i cs
            simp only [walkA] at hw
            split at hw
            · rename_i q hq
              obtain ⟨h1, h2⟩ := part_sound ht hv hq w
              obtain ⟨h3, h4⟩ := follow_sound rest fd.type l' t' q r hfo hw h2
              refine ⟨?_, h4⟩
              simp only [follow, Sem.run_bind, run_underlying hu, Result.andThen_ok, hfs, hd, Bool.false_eq_true, if_false, toV, h1]
              exact h3
            · simp at hw

theorem receiver_sound {t : TypeId} {pr : Bool} {v : Value} {wr : Option String} (ha : asIs P t pr = true) : (receiverAt t (.val v) pr wr).run P w = .ok v w := by
  unfold asIs at ha
  split at ha
  · rename_i e hu
    subst ha
    simp [receiverAt, run_underlying hu, Place.get]
  · rename_i d hd hu
    have hpr : pr = false := by simpa using ha
    subst hpr
    cases d <;> first | exact absurd rfl (hd _) | simp [receiverAt, run_underlying hu, Place.get]
  · simp at ha

theorem method_sound {t : TypeId} {name : String} {f : FuncId} {l : List (Bool × Nat × Nat)} {v r : AV} (hm : methodA P t name = some (f, l)) (hw : walkA l v = some r) (hv : okv ρ.d v) (args : Array Value) :
    (callMethod (.iface t (toV ρ v)) name args).run P w = .ok (.enter f (#[toV ρ r] ++ args)) w ∧ okv ρ.d r := by
  unfold methodA at hm
  split at hm
  · simp at hm
  · rename_i i hi
    split at hm
    · simp at hm
    · rename_i m hfind
      split at hm
      · simp at hm
      · rename_i f' pr hfn
        split at hm
        · simp at hm
        · rename_i l' xt hfo
          split at hm
          · rename_i ha
            split at hm
            · rename_i hb
              simp only [Option.some.injEq, Prod.mk.injEq] at hm
              obtain ⟨rfl, rfl⟩ := hm
              obtain ⟨h1, h2⟩ := follow_sound (P := P) (w := w) (ρ := ρ) _ _ _ _ v r hfo hw hv
              refine ⟨?_, h2⟩
              have hd : ∃ d, P.types.size + Made.depth = d + 1 := ⟨_, rfl⟩
              obtain ⟨d, hd⟩ := hd
              simp only [callMethod, Sem.run_bind, run_program, Result.andThen_ok, hd, method, run_typeInfo _ hi, hfind, h1, hfn]
              rw [receiver_sound ha]
              simp only [Result.andThen_ok, Sem.run_pure, run_callFunc hb]
            · simp at hm
          · simp at hm

theorem callMethodA_sound {self : Self} (hself : SelfOK P G w0 self) (H : HRel G w0 ρ h nx w) {recv : AV} {name : String} {args : List AV} {k : KV} (hr : okv ρ.d recv) (ha : okvs ρ.d args)
    (hrun : callMethodA P self recv name args h nx k = .ok) :
    ∃ fid as, (callMethod (toV ρ recv) name (args.map (toV ρ)).toArray).run P w = .ok (.enter fid as) w ∧ Calls P fid as w (CallPost G w0 ρ h nx k) := by
  unfold callMethodA at hrun
  split at hrun
  · rename_i t v
    split at hrun
    · rename_i f l hm
      split at hrun
      · rename_i r hw
        obtain ⟨h1, h2⟩ := method_sound (P := P) (w := w) hm hw hr (args.map (toV ρ)).toArray
        refine ⟨f, _, h1, ?_⟩
        have := hself f (r :: args) h nx k ρ w hrun H ⟨h2, ha⟩
        have e : ((r :: args).map (toV ρ)).toArray = #[toV ρ r] ++ (args.map (toV ρ)).toArray := by
          apply Array.ext'; simp
        rw [e] at this
        exact this
      · simp at hrun
    · simp at hrun
  · simp at hrun

theorem callFnA_sound {self : Self} (hself : SelfOK P G w0 self) (H : HRel G w0 ρ h nx w) {fn : Fn} {first captured args : List AV} {k : KV} (hf : okvs ρ.d first) (hc : okvs ρ.d captured) (ha : okvs ρ.d args)
    (hrun : callFnA P self fn first captured args h nx k = .ok) :
    ∃ fid as, (invoke (.fn fn (captured.map (toV ρ)).toArray) ((first.map (toV ρ)).toArray ++ (args.map (toV ρ)).toArray)).run P w = .ok (.enter fid as) w ∧ Calls P fid as w (CallPost G w0 ρ h nx k) := by
  unfold callFnA at hrun
  split at hrun
  · rename_i f
    split at hrun
    · rename_i hb
      refine ⟨f, (((first ++ args ++ captured).map (toV ρ)).toArray), ?_, hself f _ h nx k ρ w hrun H (okvs_append.2 ⟨okvs_append.2 ⟨hf, ha⟩, hc⟩)⟩
      simp only [invoke]
      rw [run_callFunc hb]
      congr 2
      apply Array.ext'; simp
    · simp at hrun
  · rename_i name
    split at hrun
    · rename_i recv rest hl
      have hok : okvs ρ.d (recv :: rest) := by rw [← hl]; exact okvs_append.2 ⟨hf, ha⟩
      obtain ⟨fid, as, h1, h2⟩ := callMethodA_sound hself H hok.1 hok.2 hrun
      refine ⟨fid, as, ?_, h2⟩
      have e : (first.map (toV ρ)).toArray ++ (args.map (toV ρ)).toArray = ((recv :: rest).map (toV ρ)).toArray := by
        rw [← hl]; apply Array.ext'; simp
      rw [e]
      simp only [invoke, List.map_cons, List.getElem?_toArray, List.getElem?_cons_zero]
      have e2 : ((toV ρ recv :: rest.map (toV ρ)).toArray).extract 1 (toV ρ recv :: rest.map (toV ρ)).toArray.size = (rest.map (toV ρ)).toArray := by
        apply Array.ext'; simp [List.extract, List.take_of_length_le]
      rw [e2]
      exact h1
    · simp at hrun
  · simp at hrun

theorem cCallVal_ok {x : Operand} {args : Array Operand} {tys : Array TypeId} (ho : o.op = .call { callee := .value x, args, argTypes := tys }) : OpOK P G N o (cCallVal P G N x args.toList) := by
  refine o1_ok fun f hf => os_ok fun fs hfs => ?_
  intro w0 ρ h nx w t a self k hself H R hrun
  obtain ⟨x1, x2⟩ := opnd_sound H R hf
  obtain ⟨a1, a2⟩ := opnds_sound H R hfs
  unfold callValA at hrun
  dsimp only at hrun
  split at hrun
  · rename_i fn first captured hv
    rw [hv] at x1 x2
    obtain ⟨fid, as, h1, h2⟩ := callFnA_sound hself H x1.1 x1.2 a1 hrun
    refine ⟨fid, as, ?_, h2⟩
    have e : args.map a.eval = ((evs fs t).map (toV ρ)).toArray := by rw [← a2]; apply Array.ext'; simp
    simp only [execOp, ho, resolve, x2, toV, toVs_map, Deferred.ofValue, Sem.run_bind, Sem.run_pure, Result.andThen_ok, e]
    exact h1
  · simp at hrun

theorem cInvoke_ok {x : Operand} {name : String} {args : Array Operand} {tys : Array TypeId} (ho : o.op = .call { callee := .invoke x name, args, argTypes := tys }) : OpOK P G N o (cInvoke P G N x name args.toList) := by
  refine o1_ok fun f hf => os_ok fun fs hfs => ?_
  intro w0 ρ h nx w t a self k hself H R hrun
  obtain ⟨x1, x2⟩ := opnd_sound H R hf
  obtain ⟨a1, a2⟩ := opnds_sound H R hfs
  obtain ⟨fid, as, h1, h2⟩ := callMethodA_sound hself H x1 a1 hrun
  refine ⟨fid, as, ?_, h2⟩
  have e : args.map a.eval = ((evs fs t).map (toV ρ)).toArray := by rw [← a2]; apply Array.ext'; simp
  simp only [execOp, ho, resolve, x2, Sem.run_bind, Sem.run_pure, Result.andThen_ok, e, invoke]
  have e1 : (#[toV ρ (f t)] ++ ((evs fs t).map (toV ρ)).toArray)[0]? = some (toV ρ (f t)) := by simp
  have e2 : (#[toV ρ (f t)] ++ ((evs fs t).map (toV ρ)).toArray).extract 1 (#[toV ρ (f t)] ++ ((evs fs t).map (toV ρ)).toArray).size = ((evs fs t).map (toV ρ)).toArray := by
    apply Array.ext'; simp [List.extract, List.take_of_length_le]
  rw [e1]
  simp only [e2]
  exact h1

theorem cCallBody_ok {f : FuncId} {args : Array Operand} {tys : Array TypeId} (hb : hasBody P f = true) (ho : o.op = .call { callee := .value (.func f), args, argTypes := tys }) :
    OpOK P G N o (cCallBody G N f args.toList) := by
  refine os_ok fun fs hfs => ?_
  intro w0 ρ h nx w t a self k hself H R hrun
  obtain ⟨a1, a2⟩ := opnds_sound H R hfs
  refine ⟨f, _, ?_, hself f _ h nx k ρ w hrun H a1⟩
  have e : args.map a.eval = ((evs fs t).map (toV ρ)).toArray := by rw [← a2]; apply Array.ext'; simp
  simp only [execOp, ho, resolve, Act.eval, Deferred.ofValue, Sem.run_bind, Sem.run_pure, Result.andThen_ok, invoke]
  rw [run_callFunc hb]
  congr 2
  have e' : Array.map a.eval args = ((evs fs t).map (toV ρ)).toArray := e
  rw [e']
  simp
end
end Go.Vai
