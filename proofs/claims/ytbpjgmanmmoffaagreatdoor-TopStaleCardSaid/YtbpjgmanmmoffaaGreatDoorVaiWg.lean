/- Code made ready, and run. -/
import Derived.Test.YtbpjgmanmmoffaaGreatDoorVaiWf
import Derived.LoopN
import Derived.Scope
namespace Go.Vai
open Go.RowKit

structure RB where
  run : Self → KR → KR
def consB (x y : RB) : RB := ⟨fun self k => x.run self (y.run self k)⟩
def nilB : RB := ⟨fun _ k => k⟩
def badB (m : Nat) : RB := ⟨fun _ _ _ _ _ => .no m⟩

noncomputable def guardB (g : Option (Nat × Bool)) (d : Option Nat) (x : RB) : RB := match g with
  | none => x
  | some (s, b) => ⟨fun self k t h n => match slot t s with
    | .bool c => match eqB c b with
      | true => x.run self k t h n
      | false => k (setD d undefA t) h n
    | _ => k (setD d undefA t) h n⟩
theorem guardB_run (g : Option (Nat × Bool)) (d : Option Nat) (x : RB) (self : Self) (k : KR) (t : T) (h : Hp) (n : Nat) :
    (guardB g d x).run self k t h n = match wantedA g t with | false => k (setD d undefA t) h n | true => x.run self k t h n := by
  cases g with
  | none => rfl
  | some p =>
    obtain ⟨s, b⟩ := p
    simp only [guardB, wantedA]
    cases slot t s <;> try rfl
    rename_i c
    simp only []
    generalize eqB c b = e
    cases e <;> rfl

def errK (N : Nat) (d : Option Nat) : Nat := Nat.add (Nat.mul N 1000) (match d with | some i => i | none => 999)
noncomputable def execB (e : Nat) (oc : OC) (d : Option Nat) : RB := match oc with
  | .pure f => ⟨fun _ k t h n => match f t with
    | some v => k (setD d v t) h n
    | none => .no (Nat.add (Nat.mul e 1000) 200)⟩
  | .read f => ⟨fun _ k t h n => match f t h with
    | some v => k (setD d v t) h n
    | none => .no (Nat.add (Nat.mul e 1000) 201)⟩
  | .new f => ⟨fun _ k t h n => match f t with
    | some p => match Nat.blt n 16777216 with
      | true => k (setD d (nv p.2 n) t) (h.set n p.1) (Nat.succ n)
      | false => .no (Nat.add (Nat.mul e 1000) 202)
    | none => .no (Nat.add (Nat.mul e 1000) 203)⟩
  | .eff f => ⟨fun _ k t h n => match f t h n with
    | .ok v h' n' => k (setD d v t) h' n'
    | .no => .no (Nat.add (Nat.mul e 1000) 204)⟩
  | .call f => ⟨fun self k t h n => f self t h n fun v h' n' => k (setD d v t) h' n'⟩
  | .defer f => ⟨fun _ k t h n => match f t with
    | some v => k (setD d undefA (pushDef t v)) h n
    | none => .no (Nat.add (Nat.mul e 1000) 205)⟩
  | .bad m => badB m
theorem execB_run (e : Nat) (oc : OC) (d : Option Nat) (self : Self) (k : KR) (t : T) (h : Hp) (n : Nat) :
    (execB e oc d).run self k t h n = .ok → execC oc self t h n (fun v t' h' n' => k (setD d v t') h' n') = .ok := by
  intro hr
  cases oc with
  | pure f =>
    cases hf : f t with
    | none => simp only [execB, hf] at hr; simp at hr
    | some v => simp only [execB, hf] at hr; simp only [execC, hf]; exact hr
  | read f =>
    cases hf : f t h with
    | none => simp only [execB, hf] at hr; simp at hr
    | some v => simp only [execB, hf] at hr; simp only [execC, hf]; exact hr
  | new f =>
    cases hf : f t with
    | none => simp only [execB, hf] at hr; simp at hr
    | some v =>
      cases hb : Nat.blt n 16777216 with
      | true => simp only [execB, hf, hb] at hr; simp only [execC, hf, hb]; exact hr
      | false => simp only [execB, hf, hb] at hr; simp at hr
  | eff f =>
    cases hf : f t h n with
    | no => simp only [execB, hf] at hr; simp at hr
    | ok v h' n' => simp only [execB, hf] at hr; simp only [execC, hf]; exact hr
  | call f => exact hr
  | defer f =>
    cases hf : f t with
    | none => simp only [execB, hf] at hr; simp at hr
    | some v => simp only [execB, hf] at hr; simp only [execC, hf]; exact hr
  | bad m => exact hr

noncomputable def goB (D : List RO) (q : RO) : RB := match q.eff with
  | false => match q.oc with
    | .pure f => ⟨fun _ k t h n => match f (restrict q.rs t) with
      | some v => k (setD q.dst v t) h n
      | none => .no 210⟩
    | .read f => ⟨fun _ k t h n => match f (restrict q.rs t) h with
      | some v => k (setD q.dst v t) h n
      | none => .no 211⟩
    | .new f => ⟨fun _ k t h n => match f (restrict q.rs t) with
      | some p => match Nat.blt n 16777216 with
        | true => match recheck (setD q.dst (nv p.2 n) t) (h.set n p.1) (D.filter isRead) with
          | true => k (setD q.dst (nv p.2 n) t) (h.set n p.1) (Nat.succ n)
          | false => .no 212
        | false => .no 213
      | none => .no 214⟩
    | _ => badB 215
  | true => ⟨fun self k t h n => execR q.oc self (restrict q.rs t) h n fun v h' n' =>
        match recheck (setD q.dst v t) h' (D.filter fun p => and (isRead p) (not (q.anc p.i))) with
        | true => k (setD q.dst v t) h' n'
        | false => .no 216⟩
theorem stepB_run (D : List RO) (q : RO) (self : Self) (k : KR) : (guardB q.g q.dst (goB D q)).run self k = stepC D q self k := by
  funext t h n
  rw [guardB_run]
  unfold stepC goB
  cases wantedA q.g t <;> simp only []
  cases q.eff <;> simp only []
  · cases q.oc <;> rfl
  · rfl

noncomputable def compC (D : List RO) : List RO → RB
  | [] => nilB
  | q :: cs => consB (guardB q.g q.dst (goB D q)) (compC (q :: D) cs)
theorem compC_run (self : Self) (k : KR) : ∀ (cs D : List RO), (compC D cs).run self k = runC self k D cs
  | [], _ => rfl
  | q :: cs, D => by
    show (guardB q.g q.dst (goB D q)).run self ((compC (q :: D) cs).run self k) = _
    rw [compC_run self k cs (q :: D), stepB_run]; rfl

section
variable (P : Program) (G N : Nat)

def guardLim (N : Nat) (g : Option (Nat × Bool)) : Bool := match g with
  | some p => Nat.blt p.1 N
  | none => true
noncomputable def seqB (ops : List Oper) : List Oper → RB
  | [] => nilB
  | o :: l => match guardOf ops o with
    | none => badB 220
    | some g => match and (guardLim N g) (dstIn N o.dst) with
      | true => consB (guardB g o.dst (execB (errK N o.dst) (compOp P G N o.op) o.dst)) (seqB ops l)
      | false => badB 221
noncomputable def anyB (ops : List Oper) : RB := match order P G N ops with
  | none => badB 222
  | some C => match planB N ops.length C with
    | true => compC [] C
    | false => badB 223

structure CB where
  run : Self → KR → (Nat → KR) → KR → KR

noncomputable def loopN (x : KR → KR) (n : Nat) : KR := @Nat.rec (fun _ => KR) (fun _ _ _ => .no 230) (fun _ ih => x ih) n

noncomputable def regionB (ops : Array Oper) (draw : Bool) : CB := match draw with
  | true => let r := anyB P G N ops.toList; ⟨fun self k _ _ => r.run self k⟩
  | false => let r := seqB P G N ops.toList ops.toList; ⟨fun self k _ _ => r.run self k⟩
noncomputable def condB (c : Operand) (x y : CB) : CB := match opnd G N c with
  | none => ⟨fun _ _ _ _ _ _ _ => .no 231⟩
  | some f => ⟨fun self k ke kr t h n => match f t with
    | .bool true => x.run self k ke kr t h n
    | .bool false => y.run self k ke kr t h n
    | _ => .no 232⟩
def seqCB (x y : CB) : CB := ⟨fun self k ke kr => x.run self (y.run self k ke kr) ke kr⟩
def blockB (id : Nat) (x : CB) : CB := ⟨fun self k ke kr => x.run self k (fun j => match Nat.beq j id with | true => k | false => ke j) kr⟩
noncomputable def loopB (F : Nat) (x : CB) : CB := ⟨fun self _ ke kr => loopN (fun k => x.run self k ke kr) F⟩

noncomputable def comp (F : Nat) (c : Code) : CB :=
  @Code.rec (fun _ => CB) ⟨fun _ k _ _ => k⟩ (fun _ ops d => regionB P G N ops d) (fun _ _ x y => seqCB x y) (fun c _ _ x y => condB G N c x y) (fun id _ x => blockB id x)
    (fun _ x => loopB F x) (fun _ _ _ _ _ _ => ⟨fun _ _ _ _ _ _ _ => .no 233⟩) (fun id => ⟨fun _ _ ke _ => ke id⟩) (fun _ x => x) (fun _ => ⟨fun _ k _ _ => k⟩)
    (fun _ => ⟨fun _ _ _ _ _ _ _ => .no 234⟩) ⟨fun _ _ _ kr => kr⟩ (fun _ => ⟨fun _ _ _ _ _ _ _ => .no 235⟩) c
end

theorem guardOf_rel {ops : Array Oper} {o : Oper} {N : Nat} {g : Option (Nat × Bool)} (h : guardOf ops.toList o = some g) (hl : guardLim N g = true) : GRel ops o N g := by
  unfold guardOf at h
  cases hg : o.guard with
  | none => rw [hg] at h; simp only [Option.some.injEq] at h; rw [← h]; exact hg
  | some jb =>
    obtain ⟨j, bb⟩ := jb
    rw [hg] at h
    simp only at h
    split at h
    · rename_i o' ho'
      split at h
      · rename_i s hs
        simp only [Option.some.injEq] at h
        rw [← h] at hl ⊢
        simp only [guardLim, blt_eq, decide_eq_true_eq] at hl
        refine ⟨j, hg, ?_, hl⟩
        have : ops[j]? = some o' := by simpa using ho'
        rw [this]; exact hs
      · simp at h
    · simp at h

/-- what a continuation owes -/
def KOK (G N : Nat) (w0 : Base) (ρ : Ren) (h : Hp) (nx : Nat) (k : KR) (R : Act → World → Prop) : Prop :=
  ∀ ρ' t' h' n' a' w', Ext ρ h nx ρ' h' n' → HRel G w0 ρ' h' n' w' → ARel ρ' N t' a' → k t' h' n' = .ok → R a' w'
theorem KOK.ext {G N : Nat} {w0 : Base} {ρ ρ' : Ren} {h h' : Hp} {nx nx' : Nat} {k : KR} {R : Act → World → Prop} (x : KOK G N w0 ρ h nx k R) (e : Ext ρ h nx ρ' h' nx') : KOK G N w0 ρ' h' nx' k R :=
  fun _ _ _ _ _ _ e' => x _ _ _ _ _ _ (e.trans e')

section
variable {P : Program} {G N F : Nat} {w0 : Base} {self : Self}

theorem seqB_sound (hself : SelfOK P G w0 self) {ops : Array Oper} {k : KR} {Q : Exit → Act → World → Prop} : ∀ (l : List Oper) {ρ : Ren} {h : Hp} {nx : Nat} {w : World} {t : T} {a : Act},
    HRel G w0 ρ h nx w → ARel ρ N t a → (seqB P G N ops.toList l).run self k t h nx = .ok → KOK G N w0 ρ h nx k (Q .normal) → wpList P ops Q l a w
  | [], ρ, h, nx, w, t, a, H, A, hr, hk => hk _ _ _ _ _ _ (Ext.refl _ _ _) H A hr
  | o :: l, ρ, h, nx, w, t, a, H, A, hr, hk => by
    simp only [seqB] at hr
    split at hr
    · simp [badB] at hr
    · rename_i g hg
      split at hr
      · rename_i hl
        simp only [Bool.and_eq_true] at hl
        have hr : (guardB g o.dst (execB (errK N o.dst) (compOp P G N o.op) o.dst)).run self ((seqB P G N ops.toList l).run self k) t h nx = .ok := hr
        rw [guardB_run] at hr
        have rel := guardOf_rel hg hl.1
        have hw : Region.wanted o (yielded ops a.tmps) = wantedA g t := wanted_spec rel fun s b e => by
          rw [e] at rel
          obtain ⟨_, _, _, hlt⟩ := rel
          exact A.slots.at_ s hlt
        unfold wpList
        rw [hw]
        split at hr
        · rename_i e
          rw [e]
          simp only [Bool.false_eq_true, if_false]
          have := A.put (v := undefA) hl.2 ⟨⟩
          rw [show toV ρ undefA = undef by simp [undefA, toV, toVs, undef]] at this
          exact seqB_sound hself l H this hr hk
        · rename_i e
          rw [e]
          simp only [if_true]
          refine .inl (exec_sound (compOp_ok o) hself H A (execB_run _ _ _ _ _ _ _ _ hr) ?_)
          intro ρ' v t' h' n' w' a' E' H' A' hv hk'
          exact seqB_sound hself l H' (A'.put hl.2 hv) hk' (hk.ext E')
      · simp [badB] at hr

theorem regionB_sound (hm : P.follows .mixedOrders = true) (hself : SelfOK P G w0 self) {id : Nat} {ops : Array Oper} {d : Bool} {k : KR} {ke : Nat → KR} {kr : KR} {Q : Exit → Act → World → Prop}
    {ρ : Ren} {h : Hp} {nx : Nat} {w : World} {t : T} {a : Act} (H : HRel G w0 ρ h nx w) (A : ARel ρ N t a) (hr : (regionB P G N ops d).run self k ke kr t h nx = .ok)
    (hk : KOK G N w0 ρ h nx k (Q .normal)) : (Code.region id ops d).wp P Q a w := by
  cases d with
  | false =>
    exact wp_region_list (seqB_sound hself _ H A hr hk)
  | true =>
    have hr : (anyB P G N ops.toList).run self k t h nx = .ok := hr
    unfold anyB at hr
    split at hr
    · simp [badB] at hr
    · rename_i C hC
      split at hr
      · rename_i hp
        rw [compC_run] at hr
        exact region_any (planB_spec (order_spec P G N _ hC) hp) hself hm H A hr hk
      · simp [badB] at hr

theorem comp_sound (hm : P.follows .mixedOrders = true) (hself : SelfOK P G w0 self) : ∀ (c : Code) {k : KR} {ke : Nat → KR} {kr : KR} {Q : Exit → Act → World → Prop}
    {ρ : Ren} {h : Hp} {nx : Nat} {w : World} {t : T} {a : Act}, HRel G w0 ρ h nx w → ARel ρ N t a → (comp P G N F c).run self k ke kr t h nx = .ok →
    KOK G N w0 ρ h nx k (Q .normal) → (∀ j, KOK G N w0 ρ h nx (ke j) (Q (.exit j))) → KOK G N w0 ρ h nx kr (Q .ret) → c.wp P Q a w := by
  intro c
  induction c with
  | skip => intro k ke kr Q ρ h nx w t a H A hr hk _ _; exact wp_skip (hk _ _ _ _ _ _ (Ext.refl _ _ _) H A hr)
  | region id ops d => intro k ke kr Q ρ h nx w t a H A hr hk _ _; exact regionB_sound hm hself H A hr hk
  | seq x y ix iy =>
    intro k ke kr Q ρ h nx w t a H A hr hk he ht
    have hr : (comp P G N F x).run self ((comp P G N F y).run self k ke kr) ke kr t h nx = .ok := hr
    refine wp_seq (ix H A hr ?_ (fun j => he j) ht)
    intro ρ' t' h' n' a' w' E' H' A' hr'
    exact iy H' A' hr' (hk.ext E') (fun j => (he j).ext E') (ht.ext E')
  | cond c x y ix iy =>
    intro k ke kr Q ρ h nx w t a H A hr hk he ht
    have hr : (condB G N c (comp P G N F x) (comp P G N F y)).run self k ke kr t h nx = .ok := hr
    unfold condB at hr
    split at hr
    · simp at hr
    · rename_i f hf
      obtain ⟨_, e⟩ := opnd_sound H A.slots hf
      simp only at hr
      split at hr
      · rename_i ef
        rw [ef] at e
        exact wp_cond_true (by rw [e]; simp [toV]) (ix H A hr hk he ht)
      · rename_i ef
        rw [ef] at e
        exact wp_cond_false (by rw [e]; simp [toV]) (iy H A hr hk he ht)
      · simp at hr
  | block id x ix =>
    intro k ke kr Q ρ h nx w t a H A hr hk he ht
    have hr : (comp P G N F x).run self k (fun j => match Nat.beq j id with | true => k | false => ke j) kr t h nx = .ok := hr
    refine wp_block (ix H A hr hk (fun j => ?_) ht)
    by_cases e : j = id
    · subst e
      have : (match Nat.beq j j with | true => k | false => ke j) = k := by rw [Nat.beq_refl]
      rw [this]
      intro ρ' t' h' n' a' w' E' H' A' hr'
      simp only [Exit.inBlock, if_true]
      exact hk _ _ _ _ _ _ E' H' A' hr'
    · have : (match Nat.beq j id with | true => k | false => ke j) = ke j := by
        have : Nat.beq j id = false := by
          cases h : Nat.beq j id with
          | false => rfl
          | true => exact absurd (Nat.eq_of_beq_eq_true h) e
        rw [this]
      rw [this]
      intro ρ' t' h' n' a' w' E' H' A' hr'
      simp only [Exit.inBlock, if_neg e]
      exact he j _ _ _ _ _ _ E' H' A' hr'
  | loop x ix =>
    intro k ke kr Q ρ h nx w t a H A hr hk he ht
    have hr : loopN (fun k => (comp P G N F x).run self k ke kr) F t h nx = .ok := hr
    refine wp_loop_rounds F ?_
    have key : ∀ (n : Nat) {ρ' : Ren} {h' : Hp} {n' : Nat} {w' : World} {t' : T} {a' : Act}, Ext ρ h nx ρ' h' n' → HRel G w0 ρ' h' n' w' → ARel ρ' N t' a' →
        loopN (fun k => (comp P G N F x).run self k ke kr) n t' h' n' = .ok → Code.rounds P x Q n a' w' := by
      intro n
      induction n with
      | zero => intro ρ' h' n' w' t' a' _ _ _ hr; simp [loopN] at hr
      | succ n ih =>
        intro ρ' h' n' w' t' a' E' H' A' hr
        have hr : (comp P G N F x).run self (loopN (fun k => (comp P G N F x).run self k ke kr) n) ke kr t' h' n' = .ok := hr
        rw [rounds_succ]
        refine ix H' A' hr ?_ (fun j => (he j).ext E') (ht.ext E')
        intro ρ2 t2 h2 n2 a2 w2 E2 H2 A2 hr2
        exact ih (E'.trans E2) H2 A2 hr2
    exact key F (Ext.refl _ _ _) H A hr
  | rangeFunc f ps x y ix iy => intro k ke kr Q ρ h nx w t a H A hr; simp [comp] at hr
  | exit id => intro k ke kr Q ρ h nx w t a H A hr _ he _; exact wp_exit (he id _ _ _ _ _ _ (Ext.refl _ _ _) H A hr)
  | scope x ix =>
    intro k ke kr Q ρ h nx w t a H A hr hk he ht
    have hr : (comp P G N F x).run self k ke kr t h nx = .ok := hr
    exact wp_scope_straight (ix H A hr hk he ht)
  | label l => intro k ke kr Q ρ h nx w t a H A hr hk _ _; exact wp_label (hk _ _ _ _ _ _ (Ext.refl _ _ _) H A hr)
  | goto l => intro k ke kr Q ρ h nx w t a H A hr; simp [comp] at hr
  | ret => intro k ke kr Q ρ h nx w t a H A hr _ _ ht; exact wp_ret (ht _ _ _ _ _ _ (Ext.refl _ _ _) H A hr)
  | refuse s => intro k ke kr Q ρ h nx w t a H A hr; simp [comp] at hr
end
end Go.Vai
