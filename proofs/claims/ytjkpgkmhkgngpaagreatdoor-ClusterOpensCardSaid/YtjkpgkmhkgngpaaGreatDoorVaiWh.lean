/- Functions made ready, and run. -/
import Derived.Test.YtjkpgkmhkgngpaaGreatDoorVaiWg
import Derived.Defers
namespace Go.Vai
open Go.RowKit

/-! ### what a function answers -/
noncomputable def loadP (agg : Bool) (k : Nat) (h : Hp) (v : AV) : Option AV := match v with
  | .ptr b o => fLoad agg k h (.ptr b o)
  | _ => none
noncomputable def resOne (P : Program) (N : Nat) (x : ResultVar) : Option (T → Hp → Option AV) := match x with
  | .tmp i => match Nat.blt i N with
    | true => some fun t _ => some (slot t i)
    | false => none
  | .cell i ty => match Nat.blt i N with
    | true => match tInfo P ty with
      | some (agg, k) => some fun t h => loadP agg k h (slot t i)
      | none => none
    | false => none
noncomputable def resAll (P : Program) (N : Nat) : List ResultVar → Option (List (T → Hp → Option AV))
  | [] => some []
  | x :: l => match resOne P N x with
    | some f => match resAll P N l with
      | some r => some (f :: r)
      | none => none
    | none => none
def evRes : List (T → Hp → Option AV) → T → Hp → Option (List AV)
  | [], _, _ => some []
  | f :: l, t, h => match f t h with
    | some v => match evRes l t h with
      | some r => some (v :: r)
      | none => none
    | none => none
structure ResB where
  run : T → Hp → Option AV
noncomputable def resB (P : Program) (N : Nat) (l : List ResultVar) : ResB := match resAll P N l with
  | some [f] => ⟨fun t h => f t h⟩
  | some fs => ⟨fun t h => match evRes fs t h with
    | some vs => some (.tuple vs)
    | none => none⟩
  | none => ⟨fun _ _ => none⟩

section
variable {P : Program} {G N : Nat} {w0 : Base} {ρ : Ren} {h : Hp} {nx : Nat} {w : World} {t : T} {tm : Array Value}

def resRun (tmps : Array Value) : ResultVar → Sem Value
  | .tmp t => pure (tmps.getD t undef)
  | .cell a t => do loadVar t (← asAddr (tmps.getD a undef))

theorem resOne_sound (H : HRel G w0 ρ h nx w) (R : TRel ρ N t tm) {x : ResultVar} {f : T → Hp → Option AV} {v : AV} (hx : resOne P N x = some f) (hv : f t h = some v) :
    (resRun tm x).run P w = .ok (toV ρ v) w ∧ okv ρ.d v := by
  unfold resOne at hx
  split at hx
  · rename_i i
    split at hx
    · rename_i hi
      simp only [blt_eq, decide_eq_true_eq] at hi
      simp only [Option.some.injEq] at hx; subst hx
      simp only [Option.some.injEq] at hv; subst hv
      obtain ⟨h1, h2⟩ := R.at_ i hi
      exact ⟨by simp [resRun, h2], h1⟩
    · simp at hx
  · rename_i i ty
    split at hx
    · rename_i hi
      simp only [blt_eq, decide_eq_true_eq] at hi
      split at hx
      · rename_i agg k ht
        simp only [Option.some.injEq] at hx; subst hx
        obtain ⟨h1, h2⟩ := R.at_ i hi
        have hv : loadP agg k h (slot t i) = some v := hv
        cases hs : slot t i <;> rw [hs] at hv <;> try (simp [loadP] at hv; done)
        rename_i b o
        rw [hs] at h1 h2
        obtain ⟨h3, h4⟩ := loadVar_sound H ht h1 hv
        refine ⟨?_, h4⟩
        simp only [resRun]
        have : tm.getD i undef = .pointer (some ⟨ρ.m b, o, none⟩) := by simp [h2, toV]
        rw [this]
        simp only [asAddr, Sem.run_bind, Sem.run_pure, Result.andThen_ok, h3]
      · simp at hx
    · simp at hx

theorem resAll_sound (H : HRel G w0 ρ h nx w) (R : TRel ρ N t tm) : ∀ {l : List ResultVar} {fs : List (T → Hp → Option AV)} {vs : List AV}, resAll P N l = some fs → evRes fs t h = some vs →
    (l.mapM (resRun tm)).run P w = .ok (vs.map (toV ρ)) w ∧ okvs ρ.d vs
  | [], fs, vs, hx, hv => by
    simp only [resAll, Option.some.injEq] at hx; subst hx
    simp only [evRes, Option.some.injEq] at hv; subst hv
    exact ⟨by simp, trivial⟩
  | x :: l, fs, vs, hx, hv => by
    simp only [resAll] at hx
    split at hx
    · rename_i f hf
      split at hx
      · rename_i r hr
        simp only [Option.some.injEq] at hx; subst hx
        simp only [evRes] at hv
        split at hv
        · rename_i v hv1
          split at hv
          · rename_i q hq
            simp only [Option.some.injEq] at hv; subst hv
            obtain ⟨h1, h2⟩ := resOne_sound H R hf hv1
            obtain ⟨h3, h4⟩ := resAll_sound H R hr hq
            refine ⟨?_, h2, h4⟩
            simp only [List.mapM_cons, Sem.run_bind, h1, Result.andThen_ok, h3, Sem.run_pure, List.map_cons]
          · simp at hv
        · simp at hv
      · simp at hx
    · simp at hx

theorem results_run (fn : Func) (tm : Array Value) {vs : List Value} (h : (fn.results.toList.mapM (resRun tm)).run P w = .ok vs w) :
    (results fn tm).run P w = .ok (if h : vs.toArray.size = 1 then vs.toArray[0] else .tuple vs.toArray) w := by
  unfold results
  have e : (fun x => match x with
    | ResultVar.tmp t => pure (tm.getD t undef)
    | ResultVar.cell a t => do loadVar t (← asAddr (tm.getD a undef)) : ResultVar → Sem Value) = resRun tm := by
    funext x; cases x <;> rfl
  have e2 : (fn.results.mapM (resRun tm)).run P w = .ok vs.toArray w := by
    rw [← Array.toArray_toList (xs := fn.results), List.mapM_toArray]
    simp [h]
  rw [Sem.run_bind]
  have e3 := e2
  rw [← e] at e3
  erw [e3]
  simp

theorem resB_sound (H : HRel G w0 ρ h nx w) (R : TRel ρ N t tm) {fn : Func} {v : AV} (hv : (resB P N fn.results.toList).run t h = some v) :
    (results fn tm).run P w = .ok (toV ρ v) w ∧ okv ρ.d v := by
  unfold resB at hv
  split at hv
  · rename_i f hf
    obtain ⟨h1, h2⟩ := resAll_sound H R hf (vs := [v]) (by
      have hv : f t h = some v := hv
      simp [evRes, hv])
    refine ⟨?_, h2.1⟩
    rw [results_run fn tm h1]
    rfl
  · rename_i fs hn hf
    simp only at hv
    split at hv
    · rename_i vs hvs
      simp only [Option.some.injEq] at hv; subst hv
      obtain ⟨h1, h2⟩ := resAll_sound H R hf hvs
      refine ⟨?_, h2⟩
      rw [results_run fn tm h1, dif_neg]
      · simp [toV, toVs_map]
      · intro e
        have l1 : vs.length = 1 := by simpa using e
        have : ∀ (fs : List (T → Hp → Option AV)) (vs : List AV), evRes fs t h = some vs → vs.length = fs.length := by
          intro fs
          induction fs with
          | nil => intro vs e; simp only [evRes, Option.some.injEq] at e; subst e; rfl
          | cons f fs ih =>
            intro vs e
            simp only [evRes] at e
            split at e
            · split at e
              · rename_i r hr
                simp only [Option.some.injEq] at e; subst e
                simp [ih _ hr]
              · simp at e
            · simp at e
        have := this fs vs hvs
        rw [l1] at this
        obtain ⟨f, rfl⟩ := List.length_eq_one_iff.1 this.symm
        exact hn f rfl
    · simp at hv
  · simp at hv
end

/-! ### the frame that a call begins with -/
noncomputable def argsT : List AV → Nat → T → T
  | [], _, t => t
  | v :: l, i, t => argsT l (Nat.succ i) (setSlot t i v)
theorem argsT_slot : ∀ (l : List AV) (i : Nat) (t : T) (j : Nat), i + l.length ≤ 256 → j < 256 → slot (argsT l i t) j = if h : i ≤ j ∧ j < i + l.length then l[j - i] else slot t j
  | [], i, t, j, _, _ => by
    have : ¬ (i ≤ j ∧ j < i + ([] : List AV).length) := by simp
    rw [dif_neg this]; rfl
  | v :: l, i, t, j, hi, hj => by
    simp only [argsT]
    have hi' : i + 1 + l.length ≤ 256 := by simp at hi; omega
    have hi2 : i < 256 := by simp at hi; omega
    rw [argsT_slot l (i + 1) _ j hi' hj]
    by_cases e : i = j
    · subst e
      rw [dif_neg (by omega), dif_pos (by simp), slot_set_same _ _ _ hi2]
      simp
    · by_cases g : i + 1 ≤ j ∧ j < i + 1 + l.length
      · rw [dif_pos g, dif_pos (by simp; omega)]
        have : j - i = (j - (i + 1)) + 1 := by omega
        simp [this]
      · rw [dif_neg g, dif_neg (by simp; omega), slot_set_other _ _ hi2 hj e]
theorem argsT_defs : ∀ (l : List AV) (i : Nat) (t : T), defsOf (argsT l i t) = defsOf t
  | [], _, _ => rfl
  | v :: l, i, t => by
    simp only [argsT]
    rw [argsT_defs l (i + 1) _, defsOf_setSlot]

theorem ARel_args {ρ : Ren} {N : Nat} {args : List AV} (hN : N ≤ 256) (hl : args.length ≤ N) (hok : okvs ρ.d args) :
    ARel ρ N (argsT args 0 emptyT) { tmps := (args.map (toV ρ)).toArray ++ Array.replicate (N - (args.map (toV ρ)).toArray.size) undef, defers := [] } := by
  have hk : 0 + args.length ≤ 256 := by omega
  have hall : ∀ (l : List AV), okvs ρ.d l → ∀ i (h : i < l.length), okv ρ.d l[i] := by
    intro l
    induction l with
    | nil => intro _ i h; simp at h
    | cons v l ih =>
      intro ho i h
      cases i with
      | zero => exact ho.1
      | succ i => exact ih ho.2 i (by simpa using h)
  refine ⟨⟨by simp; omega, by omega, fun i hi => ?_⟩, ?_⟩
  · rw [argsT_slot args 0 emptyT i hk (by omega)]
    by_cases e : i < args.length
    · rw [dif_pos ⟨by omega, by omega⟩]
      refine ⟨hall args hok i e, ?_⟩
      simp only [Nat.sub_zero]
      rw [Array.getElem?_append_left (by simpa using e)]
      simp [e]
    · rw [dif_neg (by omega), slot_empty]
      refine ⟨⟨⟩, ?_⟩
      rw [Array.getElem?_append_right (by simpa using e)]
      have : i - args.length < N - args.length := by omega
      simp [undefA, toV, toVs, undef, this]
  · rw [argsT_defs args 0 emptyT]
    simp [defsOf, emptyT, DRels]

/-! ### functions -/
structure FB where
  run : Self → (T → Hp → Nat → Ans) → List AV → Hp → Nat → Ans
  res : T → Hp → Option AV

def noE : Nat → KR := fun _ _ _ _ => .no 240
noncomputable def compF (P : Program) (G F : Nat) (f : FuncId) : Option FB := match P.funcs[f]? with
  | none => none
  | some fn => match fn.body with
    | none => none
    | some c => match Nat.ble fn.ntmps 256 with
      | false => none
      | true =>
        let x := comp P G fn.ntmps F c
        let r := resB P fn.ntmps fn.results.toList
        some ⟨fun self kr args h n => match Nat.ble args.length fn.ntmps with
          | true => x.run self kr noE kr (argsT args 0 emptyT) h n
          | false => .no 241, fun t h => r.run t h⟩

/-- a deferred function, with no deferred calls of its own -/
noncomputable def selfD (P : Program) (G F : Nat) (self : Self) : Self := fun f args h n k => match compF P G F f with
  | none => .no 242
  | some b => b.run self (fun t h' n' => match defsOf t with
    | [] => match b.res t h' with
      | some v => k v h' n'
      | none => .no 243
    | _ :: _ => .no 244) args h n
noncomputable def leaveA (P : Program) (sd : Self) (res : T → Hp → Option AV) (t : T) (k : KV) (ds : List AV) : Hp → Nat → Ans :=
  @List.rec AV (fun _ => Hp → Nat → Ans) (fun h n => match res t h with
    | some v => k v h n
    | none => .no 245) (fun d _ ih h n => match d with
    | .func (.func f) first captured => match hasBody P f with
      | true => sd f (first ++ captured) h n fun _ h' n' => ih h' n'
      | false => .no 246
    | _ => .no 247) ds
noncomputable def selfN (P : Program) (G F : Nat) (d : Nat) : Self :=
  @Nat.rec (fun _ => Self) (fun _ _ _ _ _ => .no 250) (fun _ ih f args h n k => match compF P G F f with
    | none => .no 242
    | some b => b.run ih (fun t h' n' => leaveA P (selfD P G F ih) b.res t k (defsOf t) h' n') args h n) d

section
variable {P : Program} {G F : Nat} {w0 : Base} {self : Self}

theorem body_sound (hm : P.follows .mixedOrders = true) (hself : SelfOK P G w0 self) {f : FuncId} {b : FB} (hb : compF P G F f = some b) {kr : KR} {args : List AV} {ρ : Ren} {h : Hp} {n : Nat} {w : World}
    (H : HRel G w0 ρ h n w) (ha : okvs ρ.d args) (hrun : b.run self kr args h n = .ok) :
    ∃ fn c, P.funcs[f]? = some fn ∧ fn.body = some c ∧ b.res = (resB P fn.ntmps fn.results.toList).run ∧ ∀ (Q : Exit → Act → World → Prop), KOK G fn.ntmps w0 ρ h n kr (Q .normal) → KOK G fn.ntmps w0 ρ h n kr (Q .ret) →
      c.wp P Q { tmps := (args.map (toV ρ)).toArray ++ Array.replicate (fn.ntmps - (args.map (toV ρ)).toArray.size) undef, defers := [] } w := by
  unfold compF at hb
  split at hb
  · simp at hb
  · rename_i fn hf
    split at hb
    · simp at hb
    · rename_i c hc
      split at hb
      · simp at hb
      · rename_i hlt
        simp only [Option.some.injEq] at hb; subst hb
        rw [Nat.ble_eq] at hlt
        simp only at hrun
        split at hrun
        · rename_i hle
          have hle : args.length ≤ fn.ntmps := by simpa [Nat.ble_eq] using hle
          refine ⟨fn, c, hf, hc, rfl, fun Q k1 k2 => ?_⟩
          refine comp_sound hm hself c H (ARel_args hlt hle ha) hrun k1 (fun j => ?_) k2
          intro ρ' t' h' n' a' w' _ _ _ hr
          simp [noE] at hr
        · simp at hrun

theorem callsD_sound (hm : P.follows .mixedOrders = true) (hself : SelfOK P G w0 self) {f : FuncId} {args : List AV} {h : Hp} {n : Nat} {k : KV} {ρ : Ren} {w : World} (u : FrameMode)
    (hrun : selfD P G F self f args h n k = .ok) (H : HRel G w0 ρ h n w) (ha : okvs ρ.d args) :
    CallsD P f (args.map (toV ρ)).toArray u w fun e u' w' => u' = u ∧ CallPost G w0 ρ h n k e w' := by
  unfold selfD at hrun
  split at hrun
  · simp at hrun
  · rename_i b hb
    obtain ⟨fn, c, hf, hc, hres, hwp⟩ := body_sound hm hself hb H ha hrun
    have key : KOK G fn.ntmps w0 ρ h n (fun t h' n' => match defsOf t with
        | [] => match b.res t h' with
          | some v => k v h' n'
          | none => .no 243
        | _ :: _ => .no 244) fun a w => a.defers = [] ∧ ∃ v, (results fn a.tmps).run P w = .ok v w ∧ CallPost G w0 ρ h n k (.returned v) w := by
      intro ρ' t' h' n' a' w' E' H' A' hr
      simp only at hr
      split at hr
      · rename_i hd
        have hdd := A'.defs
        rw [hd] at hdd
        split at hr
        · rename_i v hv
          rw [hres] at hv
          obtain ⟨r1, r2⟩ := resB_sound H' A'.slots hv
          refine ⟨?_, _, r1, ρ', v, h', n', rfl, r2, H', E', hr⟩
          cases e : a'.defers with
          | nil => rfl
          | cons d ds => rw [e] at hdd; exact hdd.elim
        · simp at hr
      · simp at hr
    exact callsD_of_wp hf hc (hwp _ key key)

theorem leaveA_sound (hm : P.follows .mixedOrders = true) (hself : SelfOK P G w0 self) {fn : Func} {t : T} {tm : Array Value} {k : KV} {ρ : Ren} {h : Hp} {n : Nat} :
    ∀ (l : List AV) (ds : List Deferred) {ρ' : Ren} {h' : Hp} {n' : Nat} {w' : World}, DRels ρ' l ds → Ext ρ h n ρ' h' n' → HRel G w0 ρ' h' n' w' → TRel ρ' fn.ntmps t tm →
      leaveA P (selfD P G F self) (resB P fn.ntmps fn.results.toList).run t k l h' n' = .ok → Leaves P fn tm (CallPost G w0 ρ h n k) ds .returning w'
  | [], [], ρ', h', n', w', _, E', H', R', hr => by
    have hr : (match (resB P fn.ntmps fn.results.toList).run t h' with
      | some v => k v h' n'
      | none => .no 245) = .ok := hr
    split at hr
    · rename_i v hv
      obtain ⟨r1, r2⟩ := resB_sound H' R' hv
      exact ⟨_, r1, ρ', v, h', n', rfl, r2, H', E', hr⟩
    · simp at hr
  | [], _ :: _, _, _, _, _, hd, _, _, _, _ => hd.elim
  | _ :: _, [], _, _, _, _, hd, _, _, _, _ => hd.elim
  | v :: l, d :: ds, ρ', h', n', w', ⟨hd, hds⟩, E', H', R', hr => by
    obtain ⟨fn', xs, cs, rfl, rfl, hv⟩ := hd
    have hr : (match fn' with
      | .func f => (match hasBody P f with
        | true => selfD P G F self f (xs ++ cs) h' n' fun _ h' n' => leaveA P (selfD P G F self) (resB P fn.ntmps fn.results.toList).run t k l h' n'
        | false => .no 246)
      | _ => .no 247) = .ok := by
        cases fn' <;> exact hr
    split at hr
    · rename_i g _
      split at hr
      · rename_i hb
        refine ⟨by simp, .func g, (cs.map (toV ρ')).toArray, g, ((xs ++ cs).map (toV ρ')).toArray, rfl, ?_, ?_⟩
        · have e : (xs.map (toV ρ')).toArray ++ (cs.map (toV ρ')).toArray = ((xs ++ cs).map (toV ρ')).toArray := by simp
          simp only [invoke]
          rw [e]
          exact run_callFunc hb
        · refine (callsD_sound hm hself .returning hr H' (okvs_append.2 hv)).mono ?_
          rintro e u' w2 ⟨rfl, ρ2, v2, h2, n2, rfl, hv2, H2, E2, hk2⟩
          exact leaveA_sound hm hself l ds (hds.le E2.le) (E'.trans E2) H2 (R'.le E2.le) hk2
      · simp at hr
    · simp at hr

theorem selfN_ok (hm : P.follows .mixedOrders = true) : ∀ d, SelfOK P G w0 (selfN P G F d)
  | 0 => fun f args h n k ρ w hr => by simp [selfN] at hr
  | d + 1 => fun f args h n k ρ w hr H ha => by
    have hself := selfN_ok hm d
    have hr : (match compF P G F f with
    | none => Ans.no 242
    | some b => b.run (selfN P G F d) (fun t h' n' => leaveA P (selfD P G F (selfN P G F d)) b.res t k (defsOf t) h' n') args h n) = .ok := hr
    split at hr
    · simp at hr
    · rename_i b hb
      obtain ⟨fn, c, hf, hc, hres, hwp⟩ := body_sound hm hself hb H ha hr
      have key : KOK G fn.ntmps w0 ρ h n (fun t h' n' => leaveA P (selfD P G F (selfN P G F d)) b.res t k (defsOf t) h' n')
          fun a w => Leaves P fn a.tmps (CallPost G w0 ρ h n k) a.defers .returning w := by
        intro ρ' t' h' n' a' w' E' H' A' hr'
        rw [hres] at hr'
        exact leaveA_sound hm hself _ _ A'.defs E' H' A'.slots hr'
      exact calls_of_wp_defers hf hc (hwp _ key key)
end

/-! ### the top -/
def ren0 (G : Nat) (s : Nat → Int := fun _ => 0) : Ren := { m := fun b => b, d := fun b => b + 4 < G, e := fun _ => 0, s := s }
end Go.Vai
