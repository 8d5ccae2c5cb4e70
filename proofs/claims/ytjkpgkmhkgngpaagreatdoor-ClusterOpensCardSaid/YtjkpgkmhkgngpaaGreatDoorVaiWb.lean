/- An operation run on the slots that it looks at alone. -/
import Derived.Test.YtjkpgkmhkgngpaaGreatDoorVaiWa
import Derived.Orders
namespace Go.Vai
open Go.RowKit

noncomputable def restrict (rs : List Nat) : T → T :=
  @List.rec Nat (fun _ => T → T) (fun _ => emptyT) (fun s _ ih t => setSlot (ih t) s (slot t s)) rs
theorem restrict_nil (t : T) : restrict [] t = emptyT := rfl
theorem restrict_cons (s : Nat) (rs : List Nat) (t : T) : restrict (s :: rs) t = setSlot (restrict rs t) s (slot t s) := rfl
theorem slot_restrict : ∀ (rs : List Nat) (t : T) (i : Nat), (∀ s, s ∈ rs → s < 256) → i < 256 → slot (restrict rs t) i = if i ∈ rs then slot t i else undefA
  | [], t, i, _, _ => by rw [restrict_nil, slot_empty]; simp
  | s :: rs, t, i, hs, hi => by
    rw [restrict_cons]
    by_cases e : s = i
    · subst e; rw [slot_set_same _ _ _ hi]; simp
    · rw [slot_set_other _ _ (hs s (by simp)) hi e, slot_restrict rs t i (fun s h => hs s (by simp [h])) hi]
      simp [Ne.symm e]
theorem restrict_congr : ∀ (rs : List Nat) {t t' : T}, (∀ s, s ∈ rs → slot t s = slot t' s) → restrict rs t = restrict rs t'
  | [], _, _, _ => rfl
  | s :: rs, t, t', h => by
    rw [restrict_cons, restrict_cons, h s (by simp), restrict_congr rs fun s hs => h s (by simp [hs])]

/-- the frame with the other slots cleared -/
def actR (N : Nat) (rs : List Nat) (a : Act) : Act := { a with tmps := Array.ofFn fun i : Fin N => if i.1 ∈ rs then a.tmps.getD i.1 undef else undef }

def SlotAt (ρ : Ren) (t : T) (tm : Array Value) (s : Nat) : Prop := okv ρ.d (slot t s) ∧ tm[s]? = some (toV ρ (slot t s))

theorem TRel_restrict {ρ : Ren} {N : Nat} {rs : List Nat} {t : T} {a : Act} (hN : N ≤ 256) (hr : ∀ s, s ∈ rs → s < N)
    (h : ∀ s, s ∈ rs → SlotAt ρ t a.tmps s) : TRel ρ N (restrict rs t) (actR N rs a).tmps := by
  refine ⟨by simp [actR], hN, fun i hi => ?_⟩
  rw [slot_restrict rs t i (fun s hs => Nat.lt_of_lt_of_le (hr s hs) hN) (Nat.lt_of_lt_of_le hi hN)]
  by_cases e : i ∈ rs
  · obtain ⟨h1, h2⟩ := h i e
    simp only [e, if_true]
    refine ⟨h1, ?_⟩
    simp [actR, hi, e, h2]
  · simp only [e, if_false]
    refine ⟨⟨⟩, ?_⟩
    simp [actR, hi, e, undefA, toV, toVs, undef]

theorem actR_eval {N : Nat} {rs : List Nat} {a : Act} {x : Operand} (h : ∀ s, x = .tmp s → s ∈ rs ∧ s < N) : (actR N rs a).eval x = a.eval x := by
  cases x with
  | tmp s =>
    obtain ⟨h1, h2⟩ := h s rfl
    simp [Act.eval, actR, h1, h2]
  | _ => rfl

theorem execOp_actR {N : Nat} {rs : List Nat} {a : Act} {o : Oper} (hs : ∀ cs b, o.op ≠ .select cs b) (h : ∀ s, .tmp s ∈ o.op.operands → s ∈ rs ∧ s < N) :
    execOp (actR N rs a).eval o = execOp a.eval o :=
  execOp_congr o hs fun _ hx => actR_eval fun s e => h s (e ▸ hx)

/-! ### is it wanted? -/
noncomputable def wantedA (g : Option (Nat × Bool)) (t : T) : Bool := match g with
  | none => true
  | some p => match slot t p.1 with
    | .bool c => eqB c p.2
    | _ => false
/-- is it known whether it is wanted? -/
noncomputable def knownG (g : Option (Nat × Bool)) (t : T) : Bool := match g with
  | none => true
  | some p => match slot t p.1 with
    | .ubool _ => false
    | .cond _ _ _ => false
    | _ => true
theorem knownG_congr {g : Option (Nat × Bool)} {t t' : T} (h : ∀ s b, g = some (s, b) → slot t s = slot t' s) : knownG g t = knownG g t' := by
  cases g with
  | none => rfl
  | some p => simp only [knownG, h p.1 p.2 rfl]
def GRel (ops : Array Oper) (o : Oper) (N : Nat) : Option (Nat × Bool) → Prop
  | none => o.guard = none
  | some (s, b) => ∃ j, o.guard = some (j, b) ∧ (ops[j]?).bind (·.dst) = some s ∧ s < N

theorem wanted_spec {ops : Array Oper} {o : Oper} {N : Nat} {g : Option (Nat × Bool)} {ρ : Ren} {t : T} {tm : Array Value} (hg : GRel ops o N g)
    (h : ∀ s b, g = some (s, b) → SlotAt ρ t tm s) (hkn : knownG g t = true) : Region.wanted o (yielded ops tm) = wantedA g t := by
  cases g with
  | none => simp only [GRel] at hg; simp [Region.wanted, hg, wantedA]
  | some p =>
    obtain ⟨s, b⟩ := p
    obtain ⟨j, h1, h2, _⟩ := hg
    obtain ⟨_, h3⟩ := h s b rfl
    simp only [Region.wanted, h1, yielded, h2, Option.bind_some, h3, wantedA]
    simp only [knownG] at hkn
    cases hs : slot t s <;> rw [hs] at hkn <;> first | (simp at hkn; done) | simp [toV, eqB_eq]

/-! ### an operation run -/
noncomputable def execR (oc : OC) (self : Self) (t : T) (h : Hp) (n : Nat) (k : KV) : Ans := match oc with
  | .pure f => match f t with
    | some v => k v h n
    | none => .no 200
  | .read f => match f t h with
    | some v => k v h n
    | none => .no 201
  | .new f => match f t with
    | some p => match Nat.blt n 16777216 with
      | true => k (nv p.2 n) (h.set n p.1) (Nat.succ n)
      | false => .no 202
    | none => .no 203
  | .eff f => match f t h n with
    | .ok v h' n' => k v h' n'
    | .no => .no 204
  | .call f => f self t h n k
  | .defer _ => .no 206
  | .bad m => .no m

section
variable {P : Program} {G N : Nat} {w0 : Base} {ρ : Ren} {h : Hp} {nx : Nat} {w : World} {t : T} {a : Act}

theorem execR_sound {o : Oper} {oc : OC} {self : Self} {k : KV} {a' : Act} {K : Act → World → Prop} {Q : Exit → Act → World → Prop} (hoc : OpOK P G N o oc) (hself : SelfOK P G w0 self)
    (H : HRel G w0 ρ h nx w) (R : TRel ρ N t a'.tmps) (hev : execOp a'.eval o = execOp a.eval o) (hrun : execR oc self t h nx k = .ok)
    (hK : ∀ ρ' v h' n' w', Ext ρ h nx ρ' h' n' → HRel G w0 ρ' h' n' w' → okv ρ'.d v → k v h' n' = .ok → K (a.put o.dst (toV ρ' v)) w') :
    o.wp P a w K Q := by
  unfold Oper.wp
  rw [← hev]
  cases oc with
  | pure f =>
    simp only [execR] at hrun
    split at hrun
    · rename_i v hv
      obtain ⟨h1, h2⟩ := hoc H R hv
      rw [h1]
      exact hK ρ v h nx w (Ext.refl _ _ _) H h2 hrun
    · simp at hrun
  | read f =>
    simp only [execR] at hrun
    split at hrun
    · rename_i v hv
      obtain ⟨h1, h2⟩ := hoc H R hv
      rw [h1]
      exact hK ρ v h nx w (Ext.refl _ _ _) H h2 hrun
    · simp at hrun
  | new f =>
    simp only [execR] at hrun
    split at hrun
    · rename_i p hp
      split at hrun
      · rename_i hn
        rw [blt_eq] at hn
        have hn : nx < keyMax := by unfold keyMax; exact of_decide_eq_true hn
        obtain ⟨ob, f'⟩ := p
        obtain ⟨s, ⟨m, x, e, q1, q2⟩, h2⟩ := hoc H R hp
        rw [h2, q2]
        obtain ⟨H', E⟩ := (H.drawn m).new hn e q1
        obtain ⟨n1, n2⟩ := nv_toV ρ f' nx w.heap.size e
        have := hK (ρ.put nx w.heap.size e) (nv f' nx) _ _ _ E H' n2 hrun
        rw [n1] at this
        exact this
      · simp at hrun
    · simp at hrun
  | eff f =>
    simp only [execR] at hrun
    split at hrun
    · rename_i v h' n' hv
      obtain ⟨ρ', w', h1, h2, H', E⟩ := hoc H R hv
      have := hK ρ' v h' n' w' E H' h2 hrun
      rcases h1 with h1 | ⟨h1, rfl⟩
      · rw [h1]; exact this
      · rw [h1]
        have e : toV ρ' undefA = undef := by simp [undefA, toV, toVs, undef]
        rw [e] at this
        exact this
    · simp at hrun
  | call f =>
    simp only [execR] at hrun
    obtain ⟨fid, args, h1, h2⟩ := hoc hself H R hrun
    rw [h1]
    refine h2.mono ?_
    rintro e w' ⟨ρ', v, h', n', rfl, hv, H', E, hk⟩
    exact hK ρ' v h' n' w' E H' hv hk
  | defer f => simp [execR] at hrun
  | bad m => simp [execR] at hrun
end
end Go.Vai
