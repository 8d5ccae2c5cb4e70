/- Functions without a body, deferred calls; each operation by its kind. -/
import Derived.Test.YtjkpgkmhkgngpaaGreatDoorVaiU
namespace Go.Vai
open Go.RowKit

/-! ### the library's rows -/
theorem find_row {fn : Func} {nm : String} {e : Array Value → Sem Value} (hn : fn.name = nm) (h1 : Extern.allGenericRows.lookup nm = none) (h2 : Extern.allTypedRows.lookup nm = none)
    (h3 : Extern.allRows.lookup nm = some e) : Extern.find fn = some e := by
  unfold Extern.find
  simp only [hn, h1, h2, h3, Option.map_none]
  rfl
theorem find_typed {fn : Func} {nm : String} {e : Extern.Typed} (hn : fn.name = nm) (h1 : Extern.allGenericRows.lookup nm = none) (h2 : Extern.allTypedRows.lookup nm = some e) :
    Extern.find fn = some (e fn.params fn.resultTypes) := by
  unfold Extern.find
  simp only [hn, h1, h2, Option.map_none, Option.map_some]
  rfl
theorem find_typed_origin {fn : Func} {nm : String} {e : Extern.Typed} (ho : fn.origin = nm) (g1 : Extern.allGenericRows.lookup fn.name = none) (g2 : Extern.allTypedRows.lookup fn.name = none) (g3 : Extern.allRows.lookup fn.name = none)
    (h1 : Extern.allGenericRows.lookup nm = none) (h2 : Extern.allTypedRows.lookup nm = some e) : Extern.find fn = some (e fn.params fn.resultTypes) := by
  unfold Extern.find
  simp only [g1, g2, g3, ho, h1, h2, Option.map_none, Option.map_some]
  rfl
theorem findNext_none {fn : Func} {nm og : String} (hn : fn.name = nm) (ho : fn.origin = og) (h1 : Extern.allNextRows.lookup nm = none) (h2 : Extern.allNextRows.lookup og = none) : Extern.findNext fn = none := by
  unfold Extern.findNext
  simp only [hn, ho, h1, h2, Option.map_none]
  rfl
theorem next_empty : Extern.allNextRows.lookup "" = none := by kernel_rfl

inductive XF where
  | noEscape
  | indexByte
  | countByte
  | makeNoZero (e : TypeId)
  | load (k : IntKind)
  | store
  | cas (k : IntKind)
  | add (k : IntKind)
  | mark0
  | marked (rel : Nat)
  | clone

section
variable (P : Program) (G N : Nat)

def xfOf (P : Program) (fn : Func) : Option XF :=
  match fn.origin == "" with
  | false => none
  | true => match fn.name == "internal/abi.NoEscape" with
    | true => some .noEscape
    | false => match fn.name == "internal/bytealg.IndexByteString" with
      | true => some .indexByte
      | false => match fn.name == "internal/bytealg.CountString" with
        | true => some .countByte
        | false => match fn.name == "internal/bytealg.MakeNoZero" with
          | true => match fn.resultTypes[0]? with
            | some t => match P.underlying t with
              | some (.slice e) => some (.makeNoZero e)
              | _ => none
            | none => none
          | false => match fn.name == "sync/atomic.LoadUint32" with
            | true => some (.load .u32)
            | false => match fn.name == "sync/atomic.StoreUint32" with
              | true => some .store
              | false => match fn.name == "sync/atomic.CompareAndSwapInt32" with
                | true => some (.cas .i32)
                | false => match fn.name == "sync/atomic.AddInt32" with
                  | true => some (.add .i32)
                  | false => match fn.name == "internal/race.Disable" with
                    | true => some .mark0
                    | false => match fn.name == "internal/race.Enable" with
                      | true => some .mark0
                      | false => match fn.name == "internal/race.Acquire" with
                        | true => some (.marked 0)
                        | false => match fn.name == "internal/race.ReleaseMerge" with
                          | true => some (.marked 1)
                          | false => match fn.name == "maps.clone" with
                            | true => some .clone
                            | false => none

/-- what the model's row is -/
def xfRow (fn : Func) : XF → Array Value → Sem Value
  | .noEscape => Extern.AbiNoEscape.same
  | .indexByte => Extern.BytealgIndexByte.indexByte
  | .countByte => Extern.BytealgCount.count
  | .makeNoZero _ => Extern.BytealgMakeNoZero.makeNoZero fn.params fn.resultTypes
  | .load k => Extern.Atomic.loadT (.int k)
  | .store => Extern.Atomic.storeT
  | .cas k => Extern.Atomic.casT (.int k)
  | .add k => Extern.Atomic.update (Op.intArith .add) k true
  | .mark0 => if fn.name = "internal/race.Disable" then (fun _ => do mark .disable; pure Extern.Race.none_) else (fun _ => do mark .enable; pure Extern.Race.none_)
  | .marked rel => Extern.Race.marked (if rel = 0 then .acquire else .releaseMerge)
  | .clone => Extern.MapsClone.clone

theorem xf_spec {fn : Func} {x : XF} (h : xfOf P fn = some x) : Extern.findNext fn = none ∧ Extern.find fn = some (xfRow fn x) ∧ (fn.name == "runtime.NumGoroutine") = false ∧
    ∀ e, x = .makeNoZero e → ∃ t, fn.resultTypes[0]? = some t ∧ P.underlying t = some (.slice e) := by
  unfold xfOf at h
  split at h
  · simp at h
  · rename_i ho
    have ho : fn.origin = "" := by simpa using ho
    split at h
    · rename_i hn
      have hn := eq_of_beq hn
      simp only [Option.some.injEq] at h; subst h
      exact ⟨findNext_none hn ho (by kernel_rfl) next_empty, find_row hn (by kernel_rfl) (by kernel_rfl) (by kernel_rfl), by rw [hn]; kernel_rfl, fun e he => by cases he⟩
    · split at h
      · rename_i hn
        have hn := eq_of_beq hn
        simp only [Option.some.injEq] at h; subst h
        exact ⟨findNext_none hn ho (by kernel_rfl) next_empty, find_row hn (by kernel_rfl) (by kernel_rfl) (by kernel_rfl), by rw [hn]; kernel_rfl, fun e he => by cases he⟩
      · split at h
        · rename_i hn
          have hn := eq_of_beq hn
          simp only [Option.some.injEq] at h; subst h
          exact ⟨findNext_none hn ho (by kernel_rfl) next_empty, find_row hn (by kernel_rfl) (by kernel_rfl) (by kernel_rfl), by rw [hn]; kernel_rfl, fun e he => by cases he⟩
        · split at h
          · rename_i hn
            have hn := eq_of_beq hn
            split at h
            · rename_i t ht
              split at h
              · rename_i e he
                simp only [Option.some.injEq] at h; subst h
                exact ⟨findNext_none hn ho (by kernel_rfl) next_empty, find_typed (e := Extern.BytealgMakeNoZero.makeNoZero) hn (by kernel_rfl) (by kernel_rfl), by rw [hn]; kernel_rfl, fun e' he' => by cases he'; exact ⟨t, ht, he⟩⟩
              · simp at h
            · simp at h
          · split at h
            · rename_i hn
              have hn := eq_of_beq hn
              simp only [Option.some.injEq] at h; subst h
              exact ⟨findNext_none hn ho (by kernel_rfl) next_empty, find_row hn (by kernel_rfl) (by kernel_rfl) (by kernel_rfl), by rw [hn]; kernel_rfl, fun e he => by cases he⟩
            · split at h
              · rename_i hn
                have hn := eq_of_beq hn
                simp only [Option.some.injEq] at h; subst h
                exact ⟨findNext_none hn ho (by kernel_rfl) next_empty, find_row hn (by kernel_rfl) (by kernel_rfl) (by kernel_rfl), by rw [hn]; kernel_rfl, fun e he => by cases he⟩
              · split at h
                · rename_i hn
                  have hn := eq_of_beq hn
                  simp only [Option.some.injEq] at h; subst h
                  exact ⟨findNext_none hn ho (by kernel_rfl) next_empty, find_row hn (by kernel_rfl) (by kernel_rfl) (by kernel_rfl), by rw [hn]; kernel_rfl, fun e he => by cases he⟩
                · split at h
                  · rename_i hn
                    have hn := eq_of_beq hn
                    simp only [Option.some.injEq] at h; subst h
                    exact ⟨findNext_none hn ho (by kernel_rfl) next_empty, find_row hn (by kernel_rfl) (by kernel_rfl) (by kernel_rfl), by rw [hn]; kernel_rfl, fun e he => by cases he⟩
                  · split at h
                    · rename_i hn
                      have hn := eq_of_beq hn
                      simp only [Option.some.injEq] at h; subst h
                      exact ⟨findNext_none hn ho (by kernel_rfl) next_empty, by rw [show xfRow fn .mark0 = (fun _ => do mark .disable; pure Extern.Race.none_) from if_pos hn]; exact find_row hn (by kernel_rfl) (by kernel_rfl) (by kernel_rfl), by rw [hn]; kernel_rfl, fun e he => by cases he⟩
                    · split at h
                      · rename_i hnd _ hn
                        have hn := eq_of_beq hn
                        have hnd : ¬ fn.name = "internal/race.Disable" := by simpa using hnd
                        simp only [Option.some.injEq] at h; subst h
                        exact ⟨findNext_none hn ho (by kernel_rfl) next_empty, by rw [show xfRow fn .mark0 = (fun _ => do mark .enable; pure Extern.Race.none_) from if_neg hnd]; exact find_row hn (by kernel_rfl) (by kernel_rfl) (by kernel_rfl), by rw [hn]; kernel_rfl, fun e he => by cases he⟩
                      · split at h
                        · rename_i hn
                          have hn := eq_of_beq hn
                          simp only [Option.some.injEq] at h; subst h
                          exact ⟨findNext_none hn ho (by kernel_rfl) next_empty, find_row hn (by kernel_rfl) (by kernel_rfl) (by kernel_rfl), by rw [hn]; kernel_rfl, fun e he => by cases he⟩
                        · split at h
                          · rename_i hn
                            have hn := eq_of_beq hn
                            simp only [Option.some.injEq] at h; subst h
                            exact ⟨findNext_none hn ho (by kernel_rfl) next_empty, find_row hn (by kernel_rfl) (by kernel_rfl) (by kernel_rfl), by rw [hn]; kernel_rfl, fun e he => by cases he⟩
                          · split at h
                            · rename_i hn
                              have hn := eq_of_beq hn
                              simp only [Option.some.injEq] at h; subst h
                              exact ⟨findNext_none hn ho (by kernel_rfl) next_empty, find_row hn (by kernel_rfl) (by kernel_rfl) (by kernel_rfl), by rw [hn]; kernel_rfl, fun e he => by cases he⟩
                            · simp at h

noncomputable def storeA (a x : AV) (h : Hp) (n : Nat) : ER := match fAtomStore G h a x with
  | some h' => .ok undefA h' n
  | none => .no
noncomputable def casA (k : IntKind) (a x y : AV) (h : Hp) (n : Nat) : ER := match fCas G k h a x y with
  | some (r, h') => .ok (.bool r) h' n
  | none => .no
noncomputable def addA (k : IntKind) (a x : AV) (h : Hp) (n : Nat) : ER := match fAtomAdd G k h a x with
  | some (r, h') => .ok r h' n
  | none => .no
noncomputable def cExt (x : XF) (args : List Operand) : OC := match x with
  | .noEscape => match args with
    | [a] => o1 G N a fun f => .pure fun t => some (f t)
    | _ => .bad 70
  | .indexByte => match args with
    | [a, b] => o1 G N a fun f => o1 G N b fun g => .pure fun t => fIndexByte (f t) (g t)
    | _ => .bad 71
  | .countByte => match args with
    | [a, b] => o1 G N a fun f => o1 G N b fun g => .pure fun t => fCountByte (f t) (g t)
    | _ => .bad 72
  | .makeNoZero e => match args with
    | [a] => o1 G N a fun f => .new fun t => fMakeNoZero e (f t)
    | _ => .bad 73
  | .load k => match args with
    | [a] => o1 G N a fun f => .read fun t h => fAtomLoad k h (f t)
    | _ => .bad 74
  | .store => match args with
    | [a, b] => o1 G N a fun f => o1 G N b fun g => .eff fun t h n => storeA G (f t) (g t) h n
    | _ => .bad 75
  | .cas k => match args with
    | [a, b, c] => o1 G N a fun f => o1 G N b fun g => o1 G N c fun q => .eff fun t h n => casA G k (f t) (g t) (q t) h n
    | _ => .bad 76
  | .add k => match args with
    | [a, b] => o1 G N a fun f => o1 G N b fun g => .eff fun t h n => addA G k (f t) (g t) h n
    | _ => .bad 77
  | .mark0 => match args with
    | [] => .pure fun _ => some undefA
    | _ => .bad 78
  | .marked _ => match args with
    | [a] => o1 G N a fun f => .pure fun t => fMarked (f t)
    | _ => .bad 79
  | .clone => match args with
    | [a] => o1 G N a fun f => .eff fun t h n => cloneE (f t) h n
    | _ => .bad 179
/-- a function of no body -/
noncomputable def cOver (fn : Func) (args : List Operand) : OC := match and (fn.origin == "slices.overlaps") (and (Extern.allGenericRows.lookup fn.name).isNone (and (Extern.allTypedRows.lookup fn.name).isNone (and (Extern.allRows.lookup fn.name).isNone (and (Extern.allNextRows.lookup fn.name).isNone (not (fn.name == "runtime.NumGoroutine")))))) with
  | true => match fn.params[0]? with
    | some t => match P.underlying t with
      | some (.slice e) => match P.info? e with
        | some i => match Nat.beq i.size 0 with
          | false => match args with
            | [a, b] => o1 G N a fun f => o1 G N b fun g => .read fun t h => match fOverlaps i.size h (f t) (g t) with
              | some r => some (.bool r)
              | none => none
            | _ => .bad 80
          | true => .bad 81
        | none => .bad 82
      | _ => .bad 83
    | none => .bad 84
  | false => .bad 85
noncomputable def cDefer (c : Call) : OC := match c.callee with
  | .value x => o1 G N x fun f => os G N c.args.toList fun fs => .defer fun t => match f t with
    | .func fn first captured => some (.func fn (first ++ evs fs t) captured)
    | _ => none
  | _ => .bad 86
noncomputable def cCall (c : Call) : OC := match c.callee with
  | .builtin b => cBuiltin P G N b c.argTypes.toList c.args.toList
  | .invoke x name => cInvoke P G N x name c.args.toList
  | .value x => match x with
    | .func f => match hasBody P f with
      | true => cCallBody G N f c.args.toList
      | false => match P.funcs[f]? with
        | some fn => match fn.body.isNone with
          | true => match xfOf P fn with
            | some x => cExt G N x c.args.toList
            | none => cOver P G N fn c.args.toList
          | false => .bad 87
        | none => .bad 88
    | x => cCallVal P G N x c.args.toList
noncomputable def compOp (op : Op) : OC := match op with
  | .move x => cMove G N x
  | .assign x => cMove G N x
  | .pick c a b => cPick G N c a b
  | .alloc t => cAlloc P t
  | .box t x => cBox G N t x
  | .build t ps => cBuild P G N t ps.toList
  | .buildSlice t len ps => cBuildSlice P G N t len ps.toList
  | .load t x => cLoad P G N t x
  | .store t a x => cStore P G N t a x
  | .nilCheck x => cNilCheck G N x
  | .binOp op t x y _ => cBin P G N op t x y
  | .unOp op _ x => cUn G N op x
  | .convert s d x => cConv P G N s d x
  | .makeInterface t x => cMakeIface P G N t x
  | .makeFunc fn a b => cMakeFunc G N fn a.toList b.toList
  | .makeSlice t l c => cMakeSlice P G N t l c
  | .slice t x lo hi mx => cSlice P G N t x lo hi mx
  | .fieldAddr s x f => cFieldAddr P G N s x f
  | .field s x f => cField P G N s x f
  | .indexAddr t x i => cIndexAddr P G N t x i
  | .index t x i => cIndex P G N t x i
  | .range t x => cRange P G N t x
  | .next x s => cNext G N x s
  | .extract x i => cExtract G N x i
  | .call c => cCall P G N c
  | .defer c => cDefer G N c
  | .typeAssert x _ ty ok => cAssert P G N x ty ok
  | .lookup ty x i ok => cLookup P G N ty x i ok
  | .mapUpdate ty m k v => cMapUpdate P G N ty m k v
  | .makeMap _ r => cMakeMap r
  | _ => .bad 99
end

section
variable {P : Program} {G N : Nat} {o : Oper}

theorem run_ext {w : World} {a : Act} {f : FuncId} {fn : Func} {e : Array Value → Sem Value} {args : Array Operand} {tys : Array TypeId}
    (ho : o.op = .call { callee := .value (.func f), args, argTypes := tys }) (hf : P.funcs[f]? = some fn) (hb : fn.body.isNone = true)
    (hn : (fn.name == "runtime.NumGoroutine") = false) (h1 : Extern.findNext fn = none) (h2 : Extern.find fn = some e) :
    (execOp a.eval o).run P w = ((e (args.map a.eval)).run P w).andThen fun v w' => .ok (.value v) w' := by
  simp only [execOp, ho, resolve, Act.eval, Deferred.ofValue, Sem.run_bind, Sem.run_pure, Result.andThen_ok, invoke]
  rw [run_callFunc_extern hf hn hb h1 h2]
  have : (#[] ++ Array.map a.eval args ++ #[] : Array Value) = args.map a.eval := by simp
  have e' : Array.map a.eval args = Array.map (fun x => a.eval x) args := rfl
  first
    | rw [this]
    | (congr 2; simp)

theorem arr3 {α : Type} {xs : Array α} {x y z : α} (h : xs.toList = [x, y, z]) : xs = #[x, y, z] := by apply Array.ext'; simpa using h
theorem arr0 {α : Type} {xs : Array α} (h : xs.toList = []) : xs = #[] := by apply Array.ext'; simpa using h

theorem ext_ok {v : Value} {w w' : World} {s : Sem Value} (h : s.run P w = .ok v w') : ((s.run P w).andThen fun v w' => Result.ok (Next.value v) w') = .ok (.value v) w' := by rw [h]; rfl

theorem cExt_ok {f : FuncId} {fn : Func} {x : XF} {args : Array Operand} {tys : Array TypeId} (ho : o.op = .call { callee := .value (.func f), args, argTypes := tys })
    (hf : P.funcs[f]? = some fn) (hb : fn.body.isNone = true) (hx : xfOf P fn = some x) : OpOK P G N o (cExt G N x args.toList) := by
  obtain ⟨h1, h2, h3, h4⟩ := xf_spec P hx
  have run := fun (w : World) (a : Act) => run_ext (P := P) (w := w) (a := a) ho hf hb h3 h1 h2
  unfold cExt
  split
  · split
    · rename_i a hl
      have hl := arr1 hl
      subst hl
      refine o1_ok fun f hf => ?_
      intro w0 ρ h nx w t ac v H R hv
      obtain ⟨a1, a2⟩ := opnd_sound H R hf
      simp only [Option.some.injEq] at hv; subst hv
      refine ⟨?_, a1⟩
      rw [run]
      simp only [List.map_toArray, List.map_cons, List.map_nil, a2, xfRow]
      exact ext_ok (by rfl)
    · trivial
  · split
    · rename_i a b hl
      have hl := arr2 hl
      subst hl
      refine o1_ok fun f hf => o1_ok fun g hg => ?_
      intro w0 ρ h nx w t ac v H R hv
      obtain ⟨a1, a2⟩ := opnd_sound H R hf
      obtain ⟨_, b2⟩ := opnd_sound H R hg
      obtain ⟨q1, q2⟩ := indexByte_sound (P := P) (ρ := ρ) (w := w) a1 hv
      refine ⟨?_, q2⟩
      rw [run]
      simp only [List.map_toArray, List.map_cons, List.map_nil, a2, b2, xfRow]
      exact ext_ok q1
    · trivial
  · split
    · rename_i a b hl
      have hl := arr2 hl
      subst hl
      refine o1_ok fun f hf => o1_ok fun g hg => ?_
      intro w0 ρ h nx w t ac v H R hv
      obtain ⟨a1, a2⟩ := opnd_sound H R hf
      obtain ⟨_, b2⟩ := opnd_sound H R hg
      obtain ⟨q1, q2⟩ := countByte_sound (P := P) (ρ := ρ) (w := w) a1 hv
      refine ⟨?_, q2⟩
      rw [run]
      simp only [List.map_toArray, List.map_cons, List.map_nil, a2, b2, xfRow]
      exact ext_ok q1
    · trivial
  · rename_i e
    obtain ⟨tt, t1, t2⟩ := h4 e rfl
    split
    · rename_i a hl
      have hl := arr1 hl
      subst hl
      refine o1_ok fun f hf => ?_
      intro w0 ρ h nx w t ac ob nv' H R hv
      obtain ⟨_, a2⟩ := opnd_sound H R hf
      refine ⟨_, makeNoZero_new (P := P) (params := fn.params) t1 t2 hv, ?_⟩
      rw [run]
      simp only [List.map_toArray, List.map_cons, List.map_nil, a2, xfRow]
    · trivial
  · split
    · rename_i a hl
      have hl := arr1 hl
      subst hl
      refine o1_ok fun f hf => ?_
      intro w0 ρ h nx w t ac v H R hv
      obtain ⟨a1, a2⟩ := opnd_sound H R hf
      obtain ⟨q1, q2⟩ := atomLoad_sound (P := P) H a1 hv
      refine ⟨?_, q2⟩
      rw [run]
      simp only [List.map_toArray, List.map_cons, List.map_nil, a2, xfRow]
      exact ext_ok q1
    · trivial
  · split
    · rename_i a b hl
      have hl := arr2 hl
      subst hl
      refine o1_ok fun f hf => o1_ok fun g hg => ?_
      intro w0 ρ h nx w t ac v h' nx' H R hv
      obtain ⟨a1, a2⟩ := opnd_sound H R hf
      obtain ⟨b1, b2⟩ := opnd_sound H R hg
      unfold storeA at hv
      dsimp only at hv
      split at hv
      · rename_i h2' hs
        simp only [ER.ok.injEq] at hv
        obtain ⟨rfl, rfl, rfl⟩ := hv
        obtain ⟨ρ', w', q1, q2, q3, q4⟩ := atomStore_sound (P := P) H a1 b1 hs
        refine ⟨ρ', w', .inl ?_, q2, q3, q4⟩
        rw [run]
        simp only [List.map_toArray, List.map_cons, List.map_nil, a2, b2, xfRow]
        exact ext_ok q1
      · simp at hv
    · trivial
  · split
    · rename_i a b c hl
      have hl := arr3 hl
      subst hl
      refine o1_ok fun f hf => o1_ok fun g hg => o1_ok fun q hq => ?_
      intro w0 ρ h nx w t ac v h' nx' H R hv
      obtain ⟨a1, a2⟩ := opnd_sound H R hf
      obtain ⟨_, b2⟩ := opnd_sound H R hg
      obtain ⟨c1, c2⟩ := opnd_sound H R hq
      unfold casA at hv
      dsimp only at hv
      split at hv
      · rename_i r h2' hs
        simp only [ER.ok.injEq] at hv
        obtain ⟨rfl, rfl, rfl⟩ := hv
        obtain ⟨ρ', w', q1, q2, q3, q4⟩ := cas_sound (P := P) H a1 c1 hs
        refine ⟨ρ', w', .inl ?_, q2, q3, q4⟩
        rw [run]
        simp only [List.map_toArray, List.map_cons, List.map_nil, a2, b2, c2, xfRow]
        exact ext_ok q1
      · simp at hv
    · trivial
  · split
    · rename_i a b hl
      have hl := arr2 hl
      subst hl
      refine o1_ok fun f hf => o1_ok fun g hg => ?_
      intro w0 ρ h nx w t ac v h' nx' H R hv
      obtain ⟨a1, a2⟩ := opnd_sound H R hf
      obtain ⟨_, b2⟩ := opnd_sound H R hg
      unfold addA at hv
      dsimp only at hv
      split at hv
      · rename_i r h2' hs
        simp only [ER.ok.injEq] at hv
        obtain ⟨rfl, rfl, rfl⟩ := hv
        obtain ⟨ρ', w', q1, q2, q3, q4⟩ := atomAdd_sound (P := P) H a1 hs
        refine ⟨ρ', w', .inl ?_, q2, q3, q4⟩
        rw [run]
        simp only [List.map_toArray, List.map_cons, List.map_nil, a2, b2, xfRow]
        exact ext_ok q1
      · simp at hv
    · trivial
  · split
    · rename_i hl
      have hl := arr0 hl
      subst hl
      intro w0 ρ h nx w t ac v H R hv
      simp only [Option.some.injEq] at hv; subst hv
      refine ⟨?_, trivial⟩
      rw [run]
      refine ext_ok ?_
      simp only [xfRow]
      split <;> simp [toV, toVs, undefA, Extern.Race.none_]
    · trivial
  · rename_i rel
    split
    · rename_i a hl
      have hl := arr1 hl
      subst hl
      refine o1_ok fun f hf => ?_
      intro w0 ρ h nx w t ac v H R hv
      obtain ⟨a1, a2⟩ := opnd_sound H R hf
      obtain ⟨q1, q2⟩ := marked_sound (P := P) (ρ := ρ) (w := w) (m := if rel = 0 then .acquire else .releaseMerge) hv
      refine ⟨?_, q2⟩
      rw [run]
      simp only [List.map_toArray, List.map_cons, List.map_nil, a2, xfRow]
      exact ext_ok q1
    · trivial
  · split
    · rename_i a hl
      have hl := arr1 hl
      subst hl
      refine o1_ok fun f hf => ?_
      intro w0 ρ h nx w t ac r h' nx' H R hr
      obtain ⟨a1, a2⟩ := opnd_sound H R hf
      dsimp only [cloneE] at hr
      split at hr
      · rename_i hn
        rw [blt_eq] at hn
        have hn : nx < keyMax := by unfold keyMax; exact of_decide_eq_true hn
        split at hr
        · rename_i p hp
          simp only [ER.ok.injEq] at hr
          obtain ⟨rfl, rfl, rfl⟩ := hr
          obtain ⟨ρ', w', r1, r2, r3, r4⟩ := mapClone_sound (P := P) H hn a1 (r := p.1) (h' := p.2) hp
          refine ⟨ρ', w', .inl ?_, r2, r3, r4⟩
          rw [run]
          simp only [List.map_toArray, List.map_cons, List.map_nil, a2, xfRow]
          exact ext_ok r1
        · simp at hr
      · simp at hr
    · trivial

theorem over_next : Extern.allNextRows.lookup "slices.overlaps" = none := by kernel_rfl
theorem over_gen : Extern.allGenericRows.lookup "slices.overlaps" = none := by kernel_rfl
theorem over_typed : Extern.allTypedRows.lookup "slices.overlaps" = some Extern.SlicesOverlaps.overlaps := by kernel_rfl

theorem cOver_ok {f : FuncId} {fn : Func} {args : Array Operand} {tys : Array TypeId} (ho : o.op = .call { callee := .value (.func f), args, argTypes := tys })
    (hf : P.funcs[f]? = some fn) (hb : fn.body.isNone = true) : OpOK P G N o (cOver P G N fn args.toList) := by
  unfold cOver
  split
  · rename_i hg
    simp only [Bool.and_eq_true, beq_iff_eq, Option.isNone_iff_eq_none, Bool.not_eq_true'] at hg
    obtain ⟨g0, g1, g2, g3, g4, g5⟩ := hg
    split
    · rename_i t ht
      split
      · rename_i e he
        split
        · rename_i i hi
          split
          · rename_i hz
            rw [beq_eq, decide_eq_false_iff_not] at hz
            split
            · rename_i a b hl
              have hl := arr2 hl
              subst hl
              refine o1_ok fun f hf' => o1_ok fun g hg => ?_
              intro w0 ρ h nx w tm ac v H R hv
              obtain ⟨a1, a2⟩ := opnd_sound H R hf'
              obtain ⟨b1, b2⟩ := opnd_sound H R hg
              dsimp only at hv
              split at hv
              · rename_i r hr
                simp only [Option.some.injEq] at hv; subst hv
                have q1 := overlaps_sound (P := P) (results := fn.resultTypes) H ht he hi hz a1 b1 hr
                refine ⟨?_, trivial⟩
                rw [run_ext (P := P) (w := w) (a := ac) ho hf hb g5 (findNext_none rfl g0 g4 over_next) (find_typed_origin g0 g1 g2 g3 over_gen over_typed)]
                simp only [List.map_toArray, List.map_cons, List.map_nil, a2, b2]
                exact ext_ok q1
              · simp at hv
            · trivial
          · trivial
        · trivial
      · trivial
    · trivial
  · trivial

theorem cDefer_ok {c : Call} (ho : o.op = .defer c) : OpOK P G N o (cDefer G N c) := by
  unfold cDefer
  split
  · rename_i x hcx
    refine o1_ok fun f hf => os_ok fun fs hfs => ?_
    intro w0 ρ h nx w t a v H R hv
    obtain ⟨x1, x2⟩ := opnd_sound H R hf
    obtain ⟨a1, a2⟩ := opnds_sound H R hfs
    dsimp only at hv
    split at hv
    · rename_i fn first captured hfv
      simp only [Option.some.injEq] at hv; subst hv
      rw [hfv] at x1 x2
      have e : c.args.map a.eval = ((evs fs t).map (toV ρ)).toArray := by rw [← a2]; apply Array.ext'; simp
      refine ⟨{ target := .fn fn (captured.map (toV ρ)).toArray, args := ((first ++ evs fs t).map (toV ρ)).toArray }, ?_, fn, first ++ evs fs t, captured, rfl, rfl, okvs_append.2 ⟨x1.1, a1⟩, x1.2⟩
      simp only [execOp, ho, resolve, hcx, x2, toV, toVs_map, Deferred.ofValue, Sem.run_bind, Sem.run_pure, Result.andThen_ok, e]
      simp
    · simp at hv
  · trivial

theorem cCall_ok {c : Call} (ho : o.op = .call c) : OpOK P G N o (cCall P G N c) := by
  obtain ⟨callee, args, tys⟩ := c
  unfold cCall
  dsimp only
  split
  · exact cBuiltin_ok ho
  · exact cInvoke_ok ho
  · split
    · rename_i f
      split
      · rename_i hb
        exact cCallBody_ok hb ho
      · split
        · rename_i fn hfn
          split
          · rename_i hbn
            split
            · rename_i x hx
              exact cExt_ok ho hfn hbn hx
            · exact cOver_ok ho hfn hbn
          · trivial
        · trivial
    · exact cCallVal_ok ho

theorem compOp_ok (o : Oper) : OpOK P G N o (compOp P G N o.op) := by
  unfold compOp
  split
  · exact cMove_ok (.inl ‹_›)
  · exact cMove_ok (.inr ‹_›)
  · exact cPick_ok ‹_›
  · exact cAlloc_ok ‹_›
  · exact cBox_ok ‹_›
  · exact cBuild_ok ‹_›
  · exact cBuildSlice_ok ‹_›
  · exact cLoad_ok ‹_›
  · exact cStore_ok ‹_›
  · exact cNilCheck_ok ‹_›
  · exact cBin_ok ‹_›
  · exact cUn_ok ‹_›
  · exact cConv_ok ‹_›
  · exact cMakeIface_ok ‹_›
  · exact cMakeFunc_ok ‹_›
  · exact cMakeSlice_ok ‹_›
  · exact cSlice_ok ‹_›
  · exact cFieldAddr_ok ‹_›
  · exact cField_ok ‹_›
  · exact cIndexAddr_ok ‹_›
  · exact cIndex_ok ‹_›
  · exact cRange_ok ‹_›
  · exact cNext_ok ‹_›
  · exact cExtract_ok ‹_›
  · exact cCall_ok ‹_›
  · exact cDefer_ok ‹_›
  · exact cAssert_ok ‹_›
  · exact cLookup_ok ‹_›
  · exact cMapUpdate_ok ‹_›
  · exact cMakeMap_ok ‹_›
  · trivial
end
end Go.Vai
