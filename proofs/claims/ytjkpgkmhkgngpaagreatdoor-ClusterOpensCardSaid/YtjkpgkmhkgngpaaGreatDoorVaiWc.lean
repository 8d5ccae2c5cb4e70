/- A region in every order of its operations: what one order shows of all of them. -/
import Derived.Test.YtjkpgkmhkgngpaaGreatDoorVaiWb
namespace Go.Vai
open Go.RowKit

/-- an operation of a region, made ready -/
structure RO where
  i : Nat
  o : Oper
  rs : List Nat
  g : Option (Nat × Bool)
  dst : Option Nat
  oc : OC
  eff : Bool
  an : Nat

def RO.anc (q : RO) (j : Nat) : Bool := Nat.testBit q.an j
/-- the slots it looks at -/
def RO.looks (q : RO) (s : Nat) : Prop := s ∈ q.rs ∨ ∃ b, q.g = some (s, b)

structure ROok (P : Program) (G N : Nat) (ops : Array Oper) (q : RO) (o : Oper) : Prop where
  at_ : ops[q.i]? = some o
  oc : OpOK P G N o q.oc
  sel : ∀ cs b, o.op ≠ .select cs b
  reads : ∀ s, .tmp s ∈ o.op.operands → s ∈ q.rs
  lim : ∀ s, s ∈ q.rs → s < N
  g : GRel ops o N q.g
  dst : o.dst = q.dst
  dlim : ∀ d, q.dst = some d → d < N
  low : ∀ e, e ∈ o.after → Region.binds .any e = true → e.on < q.i
  self : ∀ d, q.dst = some d → ¬ q.looks d

/-- what holds of two of them, the first one being done first -/
structure Two (p q : RO) : Prop where
  ne : p.i ≠ q.i
  dd : ∀ d, p.dst = some d → q.dst ≠ some d
  raw : ∀ d, p.dst = some d → q.looks d → q.anc p.i = true
  war : ∀ d, q.dst = some d → p.looks d → q.eff = true ∧ q.anc p.i = true
  chain : p.eff = true → q.anc p.i = true

structure Plan (P : Program) (G N : Nat) (ops : Array Oper) (C : List RO) : Prop where
  ok : ∀ q, q ∈ C → ∃ o, ROok P G N ops q o
  two : C.Pairwise Two
  all : ∀ i, i < ops.size → ∃ q, q ∈ C ∧ q.i = i
  anc : ∀ q, q ∈ C → ∀ o, ops[q.i]? = some o → ∀ j, q.anc j = true → ∃ e, e ∈ o.after ∧ Region.binds .any e = true ∧ (e.on = j ∨ ∃ p, p ∈ C ∧ p.i = e.on ∧ p.anc j = true)

abbrev KR := T → Hp → Nat → Ans

/-- do the reads done before still read what they did? -/
noncomputable def recheck (t : T) (h : Hp) (l : List RO) : Bool :=
  @List.rec RO (fun _ => Bool) true (fun p _ ih => match wantedA p.g t with
    | false => ih
    | true => match p.oc with
      | .read f => match f (restrict p.rs t) h with
        | some v => match p.dst with
          | some d => and (avEq v (slot t d)) ih
          | none => ih
        | none => false
      | _ => ih) l
def isRead (q : RO) : Bool := match q.oc with
  | .read _ => true
  | _ => false

noncomputable def stepC (D : List RO) (q : RO) (self : Self) (k : KR) (t : T) (h : Hp) (n : Nat) : Ans :=
  match knownG q.g t with
  | false => .no 238
  | true => match wantedA q.g t with
  | false => k (setD q.dst undefA t) h n
  | true => match q.eff with
    | false => match q.oc with
      | .pure f => match f (restrict q.rs t) with
        | some v => k (setD q.dst v t) h n
        | none => .no 210
      | .read f => match f (restrict q.rs t) h with
        | some v => k (setD q.dst v t) h n
        | none => .no 211
      | .new f => match f (restrict q.rs t) with
        | some p => match Nat.blt n 16777216 with
          | true => match recheck (setD q.dst (nv p.2 n) t) (h.set n p.1) (D.filter isRead) with
            | true => k (setD q.dst (nv p.2 n) t) (h.set n p.1) (Nat.succ n)
            | false => .no 212
          | false => .no 213
        | none => .no 214
      | _ => .no 215
    | true => execR q.oc self (restrict q.rs t) h n fun v h' n' =>
        match recheck (setD q.dst v t) h' (D.filter fun p => and (isRead p) (not (q.anc p.i))) with
        | true => k (setD q.dst v t) h' n'
        | false => .no 216

noncomputable def runC (self : Self) (k : KR) : List RO → List RO → KR
  | _, [] => k
  | D, q :: cs => stepC D q self (runC self k (q :: D) cs)

def Ls (L : Array Bool) (i : Nat) : Prop := L.getD i false = true

/-- an operation that has been done here, and that the world has still to do -/
def Pend (nx0 : Nat) (ρ : Ren) (t : T) (h : Hp) (nx : Nat) (B : Nat → Option Nat) (q : RO) : Prop :=
  (q.eff = false ∧ knownG q.g t = true) ∧ (wantedA q.g t = false → ∀ d, q.dst = some d → slot t d = undefA) ∧
  (wantedA q.g t = true → ∃ v, (∀ d, q.dst = some d → slot t d = v) ∧ match q.oc with
    | .pure f => f (restrict q.rs t) = some v
    | .read f => f (restrict q.rs t) h = some v
    | .new f => ∃ ob f' b, f (restrict q.rs t) = some (ob, f') ∧ v = nv f' b ∧ h.get b = some ob ∧ ¬ ρ.d b ∧ nx0 ≤ b ∧ b < nx ∧ B q.i = some b
    | _ => False)

structure Inv0 (P : Program) (G N : Nat) (w0 : Base) (ops : Array Oper) (C : List RO) (sf : Self) (k : KR) (ρ0 : Ren) (h0 : Hp) (nx0 : Nat)
    (L : Array Bool) (a : Act) (w : World) (D cs : List RO) (t tL : T) (h : Hp) (nx : Nat) (ρ : Ren) (B : Nat → Option Nat) : Prop where
  size : L.size = ops.size
  split : C = D.reverse ++ cs
  sub : ∀ i, Ls L i → ∃ q, q ∈ D ∧ q.i = i
  down : ∀ q, q ∈ C → Ls L q.i → ∀ j, q.anc j = true → Ls L j
  H : HRel G w0 ρ h nx w
  E : Ext ρ0 h0 nx0 ρ h nx
  A : ARel ρ N tL a
  same : ∀ s, s < N → (∀ q, q ∈ D → ¬ Ls L q.i → q.dst ≠ some s) → slot t s = slot tL s
  defs : defsOf t = defsOf tL
  pend : ∀ q, q ∈ D → ¬ Ls L q.i → Pend nx0 ρ t h nx B q
  inj : ∀ i j b, B i = some b → B j = some b → i = j
  bnd : ∀ i b, B i = some b → b < nx
  run : runC sf k D cs t h nx = .ok

def Inv (P : Program) (G N : Nat) (w0 : Base) (ops : Array Oper) (C : List RO) (sf : Self) (k : KR) (ρ0 : Ren) (h0 : Hp) (nx0 : Nat) (L : Array Bool) (a : Act) (w : World) : Prop :=
  ∃ D cs t tL h nx ρ B, Inv0 P G N w0 ops C sf k ρ0 h0 nx0 L a w D cs t tL h nx ρ B ∧ ∀ q cs', cs = q :: cs' → q.eff = true

section
variable {P : Program} {G N : Nat} {w0 : Base} {ops : Array Oper} {C : List RO} {self : Self} {k : KR} {ρ0 : Ren} {h0 : Hp} {nx0 : Nat}
  {L : Array Bool} {a : Act} {w : World} {D cs : List RO} {t tL : T} {h : Hp} {nx : Nat} {ρ : Ren} {B : Nat → Option Nat}

theorem recheck_spec : ∀ (l : List RO), recheck t h l = true → ∀ p, p ∈ l → wantedA p.g t = true → ∀ f, p.oc = .read f → ∃ v, f (restrict p.rs t) h = some v ∧ ∀ d, p.dst = some d → slot t d = v
  | [], _, p, hp, _, _, _ => by simp at hp
  | q :: l, hr, p, hp, hw, f, hf => by
    have e : recheck t h (q :: l) = (match wantedA q.g t with
    | false => recheck t h l
    | true => match q.oc with
      | .read f => match f (restrict q.rs t) h with
        | some v => match q.dst with
          | some d => and (avEq v (slot t d)) (recheck t h l)
          | none => recheck t h l
        | none => false
      | _ => recheck t h l) := rfl
    rw [e] at hr
    have hl : recheck t h l = true := by
      split at hr
      · exact hr
      · split at hr
        · split at hr
          · split at hr
            · simp only [Bool.and_eq_true] at hr; exact hr.2
            · exact hr
          · simp at hr
        · exact hr
    rcases List.mem_cons.1 hp with rfl | hp
    · rw [hw] at hr
      simp only [hf] at hr
      split at hr
      · rename_i v hv
        refine ⟨v, hv, fun d hd => ?_⟩
        rw [hd] at hr
        simp only [Bool.and_eq_true] at hr
        exact (avEq_sound _ _ hr.1).symm
      · simp at hr
    · exact recheck_spec l hl p hp hw f hf

theorem slot_setD {d : Option Nat} {v : AV} {s : Nat} (hN : N ≤ 256) (hd : ∀ i, d = some i → i < N) (hs : s < N) :
    slot (setD d v t) s = if d = some s then v else slot t s := by
  cases d with
  | none => simp [setD]
  | some i =>
    have hi := hd i rfl
    by_cases e : i = s
    · subst e; simp [setD, slot_set_same _ _ _ (Nat.lt_of_lt_of_le hi hN)]
    · rw [show setD (some i) v t = setSlot t i v from rfl, slot_set_other t v (Nat.lt_of_lt_of_le hi hN) (Nat.lt_of_lt_of_le hs hN) e]
      simp [e]
theorem defsOf_setD {d : Option Nat} {v : AV} : defsOf (setD d v t) = defsOf t := by
  cases d <;> rfl

theorem wantedA_congr {g : Option (Nat × Bool)} {t t' : T} (h : ∀ s b, g = some (s, b) → slot t s = slot t' s) : wantedA g t = wantedA g t' := by
  cases g with
  | none => rfl
  | some p => simp only [wantedA, h p.1 p.2 rfl]

/-- what an operation sees does not turn with a slot that it does not look at -/
theorem sees_congr {q : RO} {t t' : T} (h : ∀ s, q.looks s → slot t s = slot t' s) : wantedA q.g t = wantedA q.g t' ∧ restrict q.rs t = restrict q.rs t' :=
  ⟨wantedA_congr fun s b e => h s (.inr ⟨b, e⟩), restrict_congr _ fun s hs => h s (.inl hs)⟩

theorem Ls_set {L : Array Bool} {i j : Nat} (hi : i < L.size) : Ls (L.setIfInBounds i true) j ↔ j = i ∨ Ls L j := by
  unfold Ls
  by_cases e : i = j
  · subst e; simp [hi]
  · rw [getD_set_ne false e]; simp [Ne.symm e]
end
end Go.Vai
