/- Code made ready, and run. -/
import Derived.Test.YtjkpgkmhkgngpaaGreatDoorVaiWf
import Derived.LoopN
import Derived.Scope
namespace Go.Vai
open Go.RowKit

structure RB where
  run : Self → KR → KR
def consB (x y : RB) : RB := ⟨fun self k => x.run self (y.run self k)⟩
def nilB : RB := ⟨fun _ k => k⟩
def badB (m : Nat) : RB := ⟨fun _ _ _ _ _ => .no m⟩

noncomputable def guardB (g : Option (Nat × Bool)) (d : Option Nat) (x : RB) : RB := match g with
  | none => x
  | some (s, b) => ⟨fun self k t h n => match slot t s with
    | .bool c => match eqB c b with
      | true => x.run self k t h n
      | false => k (setD d undefA t) h n
    | .ubool _ => .no 238
    | .cond _ _ _ => .no 238
    | _ => k (setD d undefA t) h n⟩
theorem guardB_run (g : Option (Nat × Bool)) (d : Option Nat) (x : RB) (self : Self) (k : KR) (t : T) (h : Hp) (n : Nat) :
    (guardB g d x).run self k t h n = match knownG g t with | false => .no 238 | true => match wantedA g t with | false => k (setD d undefA t) h n | true => x.run self k t h n := by
  cases g with
  | none => rfl
  | some p =>
    obtain ⟨s, b⟩ := p
    simp only [guardB, wantedA, knownG]
    cases slot t s <;> try rfl
    rename_i c
    simp only []
    generalize eqB c b = e
    cases e <;> rfl

def errK (N : Nat) (d : Option Nat) : Nat := Nat.add (Nat.mul N 1000) (match d with | some i => i | none => 999)
noncomputable def execB (e : Nat) (oc : OC) (d : Option Nat) : RB := match oc with
  | .pure f => ⟨fun _ k t h n => match f t with
    | some v => k (setD d v t) h n
    | none => .no (Nat.add (Nat.mul e 1000) 200)⟩
  | .read f => ⟨fun _ k t h n => match f t h with
    | some v => k (setD d v t) h n
    | none => .no (Nat.add (Nat.mul e 1000) 201)⟩
  | .new f => ⟨fun _ k t h n => match f t with
    | some p => match Nat.blt n 16777216 with
      | true => k (setD d (nv p.2 n) t) (h.set n p.1) (Nat.succ n)
      | false => .no (Nat.add (Nat.mul e 1000) 202)
    | none => .no (Nat.add (Nat.mul e 1000) 203)⟩
  | .eff f => ⟨fun _ k t h n => match f t h n with
    | .ok v h' n' => k (setD d v t) h' n'
    | .no => .no (Nat.add (Nat.mul e 1000) 204)⟩
  | .call f => ⟨fun self k t h n => f self t h n fun v h' n' => k (setD d v t) h' n'⟩
  | .defer f => ⟨fun _ k t h n => match f t with
    | some v => k (setD d undefA (pushDef t v)) h n
    | none => .no (Nat.add (Nat.mul e 1000) 205)⟩
  | .bad m => badB m
theorem execB_run (e : Nat) (oc : OC) (d : Option Nat) (self : Self) (k : KR) (t : T) (h : Hp) (n : Nat) :
    (execB e oc d).run self k t h n = .ok → execC oc self t h n (fun v t' h' n' => k (setD d v t') h' n') = .ok := by
  intro hr
  cases oc with
  | pure f =>
    cases hf : f t with
    | none => simp only [execB, hf] at hr; simp at hr
    | some v => simp only [execB, hf] at hr; simp only [execC, hf]; exact hr
  | read f =>
    cases hf : f t h with
    | none => simp only [execB, hf] at hr; simp at hr
    | some v => simp only [execB, hf] at hr; simp only [execC, hf]; exact hr
  | new f =>
    cases hf : f t with
    | none => simp only [execB, hf] at hr; simp at hr
    | some v =>
      cases hb : Nat.blt n 16777216 with
      | true => simp only [execB, hf, hb] at hr; simp only [execC, hf, hb]; exact hr
      | false => simp only [execB, hf, hb] at hr; simp at hr
  | eff f =>
    cases hf : f t h n with
    | no => simp only [execB, hf] at hr; simp at hr
    | ok v h' n' => simp only [execB, hf] at hr; simp only [execC, hf]; exact hr
  | call f => exact hr
  | defer f =>
    cases hf : f t with
    | none => simp only [execB, hf] at hr; simp at hr
    | some v => simp only [execB, hf] at hr; simp only [execC, hf]; exact hr
  | bad m => exact hr

noncomputable def goB (D : List RO) (q : RO) : RB := match q.eff with
  | false => match q.oc with
    | .pure f => ⟨fun _ k t h n => match f (restrict q.rs t) with
      | some v => k (setD q.dst v t) h n
      | none => .no 210⟩
    | .read f => ⟨fun _ k t h n => match f (restrict q.rs t) h with
      | some v => k (setD q.dst v t) h n
      | none => .no 211⟩
    | .new f => ⟨fun _ k t h n => match f (restrict q.rs t) with
      | some p => match Nat.blt n 16777216 with
        | true => match recheck (setD q.dst (nv p.2 n) t) (h.set n p.1) (D.filter isRead) with
          | true => k (setD q.dst (nv p.2 n) t) (h.set n p.1) (Nat.succ n)
          | false => .no 212
        | false => .no 213
      | none => .no 214⟩
    | _ => badB 215
  | true => ⟨fun self k t h n => execR q.oc self (restrict q.rs t) h n fun v h' n' =>
        match recheck (setD q.dst v t) h' (D.filter fun p => and (isRead p) (not (q.anc p.i))) with
        | true => k (setD q.dst v t) h' n'
        | false => .no 216⟩
theorem stepB_run (D : List RO) (q : RO) (self : Self) (k : KR) : (guardB q.g q.dst (goB D q)).run self k = stepC D q self k := by
  funext t h n
  rw [guardB_run]
  unfold stepC goB
  cases knownG q.g t <;> simp only []
  cases wantedA q.g t <;> simp only []
  cases q.eff <;> simp only []
  · cases q.oc <;> rfl
  · rfl

noncomputable def compC (D : List RO) : List RO → RB
  | [] => nilB
  | q :: cs => consB (guardB q.g q.dst (goB D q)) (compC (q :: D) cs)
theorem compC_run (self : Self) (k : KR) : ∀ (cs D : List RO), (compC D cs).run self k = runC self k D cs
  | [], _ => rfl
  | q :: cs, D => by
    show (guardB q.g q.dst (goB D q)).run self ((compC (q :: D) cs).run self k) = _
    rw [compC_run self k cs (q :: D), stepB_run]; rfl

section
variable (P : Program) (G N : Nat)

def guardLim (N : Nat) (g : Option (Nat × Bool)) : Bool := match g with
  | some p => Nat.blt p.1 N
  | none => true
noncomputable def seqB (ops : List Oper) : List Oper → RB
  | [] => nilB
  | o :: l => match guardOf ops o with
    | none => badB 220
    | some g => match and (guardLim N g) (dstIn N o.dst) with
      | true => consB (guardB g o.dst (execB (errK N o.dst) (compOp P G N o.op) o.dst)) (seqB ops l)
      | false => badB 221
noncomputable def anyB (ops : List Oper) : RB := match order P G N ops with
  | none => badB 222
  | some C => match planB N ops.length C with
    | true => compC [] C
    | false => badB 223

structure CB where
  run : Self → KR → (Nat → KR) → KR → KR

noncomputable def loopN (x : KR → KR) (n : Nat) : KR := @Nat.rec (fun _ => KR) (fun _ _ _ => .no 230) (fun _ ih => x ih) n

noncomputable def regionB (ops : Array Oper) (draw : Bool) : CB := match draw with
  | true => let r := anyB P G N ops.toList; ⟨fun self k _ _ => r.run self k⟩
  | false => let r := seqB P G N ops.toList ops.toList; ⟨fun self k _ _ => r.run self k⟩
/-! ### ways that only reckon: both are gone at once -/
structure PC where
  run : T → Option T
  ds : List Nat
def idPC : PC := ⟨fun t => some t, []⟩
def seqPC (x y : PC) : PC := ⟨fun t => match x.run t with
  | some t' => y.run t'
  | none => none, x.ds ++ y.ds⟩
def dsOf (d : Option Tmp) : List Nat := match d with
  | some i => [i]
  | none => []
noncomputable def onePC (f : T → Option AV) (d : Option Tmp) : PC := ⟨fun t => match f t with
  | some v => some (setD d v t)
  | none => none, dsOf d⟩
noncomputable def pureOps : List Oper → Option PC
  | [] => some idPC
  | o :: l => match o.guard with
    | some _ => none
    | none => match dstIn N o.dst with
      | false => none
      | true => match compOp P G N o.op with
        | .pure f => match pureOps l with
          | some q => some (seqPC (onePC f o.dst) q)
          | none => none
        | _ => none
def seqPO (x y : Option PC) : Option PC := match x with
  | some p => match y with
    | some q => some (seqPC p q)
    | none => none
  | none => none
noncomputable def pureC (c : Code) : Option PC :=
  @Code.rec (fun _ => Option PC) (some idPC) (fun _ ops d => match d with
      | false => pureOps P G N ops.toList
      | true => none) (fun _ _ x y => seqPO x y) (fun _ _ _ _ _ => none) (fun _ _ _ => none)
    (fun _ _ => none) (fun _ _ _ _ _ _ => none) (fun _ => none) (fun _ x => x) (fun _ => some idPC)
    (fun _ => none) none (fun _ => none) c
def flatA : AV → Bool
  | .agg _ => false
  | _ => true
def linMerge (j : Nat) (a b : AV) : Option AV := match strV a with
  | some (la, c, l) => match strV b with
    | some (lb, c', l') => match and (Nat.beq la lb) (lvsEq l l') with
      | true => mkStr la c' (insL ⟨j, Int.add c (Int.mul (-1) c'), 0, 1⟩ l')
      | false => none
    | none => none
  | none => none
def mergeV (j : Nat) (a b : AV) : Option AV := match avEq a b with
  | true => some a
  | false => match linMerge j a b with
    | some r => some r
    | none => match and (flatA a) (flatA b) with
      | true => some (.cond j a b)
      | false => none
noncomputable def mergeT (j : Nat) (t1 t2 : T) : List Nat → Option T
  | [] => some t1
  | d :: l => match mergeT j t1 t2 l with
    | some t => match Nat.blt d N with
      | true => match mergeV j (slot t1 d) (slot t2 d) with
        | some v => some (setSlot t d v)
        | none => none
      | false => none
    | none => none
noncomputable def bothT (p q : Option PC) (j : Nat) (t : T) : Option T := match p with
  | some p => match q with
    | some q => match p.run t with
      | some t1 => match q.run t with
        | some t2 => mergeT N j t1 t2 (p.ds ++ q.ds)
        | none => none
      | none => none
    | none => none
  | none => none
noncomputable def condB (c : Operand) (p q : Option PC) (x y : CB) : CB := match opnd G N c with
  | none => ⟨fun _ _ _ _ _ _ _ => .no 231⟩
  | some f => ⟨fun self k ke kr t h n => match f t with
    | .bool true => x.run self k ke kr t h n
    | .bool false => y.run self k ke kr t h n
    | .ubool j => match bothT N p q j t with
      | some t' => k t' h n
      | none => .no 237
    | _ => .no 232⟩
def seqCB (x y : CB) : CB := ⟨fun self k ke kr => x.run self (y.run self k ke kr) ke kr⟩
def blockB (id : Nat) (x : CB) : CB := ⟨fun self k ke kr => x.run self k (fun j => match Nat.beq j id with | true => k | false => ke j) kr⟩
noncomputable def loopB (F : Nat) (x : CB) : CB := ⟨fun self _ ke kr => loopN (fun k => x.run self k ke kr) F⟩

noncomputable def comp (F : Nat) (c : Code) : CB :=
  @Code.rec (fun _ => CB) ⟨fun _ k _ _ => k⟩ (fun _ ops d => regionB P G N ops d) (fun _ _ x y => seqCB x y) (fun c cx cy x y => condB G N c (pureC P G N cx) (pureC P G N cy) x y) (fun id _ x => blockB id x)
    (fun _ x => loopB F x) (fun _ _ _ _ _ _ => ⟨fun _ _ _ _ _ _ _ => .no 233⟩) (fun id => ⟨fun _ _ ke _ => ke id⟩) (fun _ x => x) (fun _ => ⟨fun _ k _ _ => k⟩)
    (fun _ => ⟨fun _ _ _ _ _ _ _ => .no 234⟩) ⟨fun _ _ _ kr => kr⟩ (fun _ => ⟨fun _ _ _ _ _ _ _ => .no 235⟩) c
end

/-! ### what they come to -/
section
variable {P : Program} {G N : Nat} {w0 : Base} {ρ : Ren} {h : Hp} {nx : Nat} {w : World}

/-- what reckoning does to the frame -/
structure PRel (P : Program) (N : Nat) (ρ : Ren) (w : World) (p : PC) (t t' : T) (a a' : Act) : Prop where
  rel : ARel ρ N t' a'
  same : ∀ i, i < N → i ∉ p.ds → slot t' i = slot t i
  defs : defsOf t' = defsOf t
theorem PRel.seq {p q : PC} {t t' t2 : T} {a a' a2 : Act} (x : PRel P N ρ w p t t' a a') (y : PRel P N ρ w q t' t2 a' a2) : PRel P N ρ w (seqPC p q) t t2 a a2 :=
  ⟨y.rel, fun i hi hn => by
    have hn : i ∉ p.ds ++ q.ds := hn
    rw [List.mem_append, not_or] at hn
    rw [y.same i hi hn.2, x.same i hi hn.1], y.defs.trans x.defs⟩

theorem pureOps_sound (H : HRel G w0 ρ h nx w) {ops : Array Oper} : ∀ {l : List Oper} {p : PC} {t t' : T} {a : Act}, pureOps P G N l = some p → p.run t = some t' → ARel ρ N t a →
    ∃ a', PRel P N ρ w p t t' a a' ∧ ∀ Q : Exit → Act → World → Prop, Q .normal a' w → wpList P ops Q l a w
  | [], p, t, t', a, hp, ht, A => by
    simp only [pureOps, Option.some.injEq] at hp; subst hp
    simp only [idPC, Option.some.injEq] at ht; subst ht
    exact ⟨a, ⟨A, fun _ _ _ => rfl, rfl⟩, fun Q hQ => hQ⟩
  | o :: l, p, t, t', a, hp, ht, A => by
    simp only [pureOps] at hp
    split at hp <;> try (simp at hp; done)
    rename_i hg
    split at hp <;> try (simp at hp; done)
    rename_i hd
    split at hp <;> try (simp at hp; done)
    rename_i f hf
    split at hp <;> try (simp at hp; done)
    rename_i q hq
    simp only [Option.some.injEq] at hp; subst hp
    simp only [seqPC, onePC] at ht
    cases hv : f t with
    | none => rw [hv] at ht; simp at ht
    | some v =>
      rw [hv] at ht
      simp only at ht
      have op := compOp_ok (P := P) (G := G) (N := N) o
      rw [hf] at op
      obtain ⟨r1, r2⟩ := op H A.slots hv
      have A1 := A.put (d := o.dst) hd r2
      obtain ⟨a', R, hw⟩ := pureOps_sound H (ops := ops) hq ht A1
      refine ⟨a', PRel.seq (p := onePC f o.dst) (t' := setD o.dst v t) (a' := a.put o.dst (toV ρ v)) ⟨A1, fun i hi hn => ?_, defsOf_setD⟩ R, fun Q hQ => ?_⟩
      · cases e : o.dst with
        | none => rfl
        | some d =>
          have hn : i ∉ dsOf o.dst := hn
          rw [e] at hn hd
          simp only [dsOf, List.mem_singleton] at hn
          simp only [dstIn, blt_eq] at hd
          have hd := of_decide_eq_true hd
          have := A.slots.lim
          exact slot_set_other t v (by omega) (by omega) (fun e => hn e.symm)
      · unfold wpList
        have hw' : Region.wanted o (yielded ops a.tmps) = true := by simp [Region.wanted, hg]
        rw [hw']
        simp only [if_true]
        refine .inl ?_
        unfold Oper.wp
        rw [r1]
        exact hw Q hQ

theorem pureC_sound (H : HRel G w0 ρ h nx w) : ∀ (c : Code) {p : PC} {t t' : T} {a : Act}, pureC P G N c = some p → p.run t = some t' → ARel ρ N t a →
    ∃ a', PRel P N ρ w p t t' a a' ∧ ∀ Q : Exit → Act → World → Prop, Q .normal a' w → c.wp P Q a w := by
  intro c
  induction c with
  | skip =>
    intro p t t' a hp ht A
    have hp : some idPC = some p := hp
    simp only [Option.some.injEq] at hp; subst hp
    simp only [idPC, Option.some.injEq] at ht; subst ht
    exact ⟨a, ⟨A, fun _ _ _ => rfl, rfl⟩, fun Q hQ => wp_skip hQ⟩
  | label l =>
    intro p t t' a hp ht A
    have hp : some idPC = some p := hp
    simp only [Option.some.injEq] at hp; subst hp
    simp only [idPC, Option.some.injEq] at ht; subst ht
    exact ⟨a, ⟨A, fun _ _ _ => rfl, rfl⟩, fun Q hQ => wp_label hQ⟩
  | region id ops d =>
    intro p t t' a hp ht A
    cases d with
    | true => have hp : (none : Option PC) = some p := hp; simp at hp
    | false =>
      have hp : pureOps P G N ops.toList = some p := hp
      obtain ⟨a', R, hw⟩ := pureOps_sound H (ops := ops) hp ht A
      exact ⟨a', R, fun Q hQ => wp_region_list (hw Q hQ)⟩
  | seq x y ix iy =>
    intro p t t' a hp ht A
    have hp : seqPO (pureC P G N x) (pureC P G N y) = some p := hp
    unfold seqPO at hp
    split at hp <;> try (simp at hp; done)
    rename_i p1 h1
    split at hp <;> try (simp at hp; done)
    rename_i p2 h2
    simp only [Option.some.injEq] at hp; subst hp
    simp only [seqPC] at ht
    split at ht <;> try (simp at ht; done)
    rename_i t1 ht1
    obtain ⟨a1, R1, w1⟩ := ix h1 ht1 A
    obtain ⟨a2, R2, w2⟩ := iy h2 ht R1.rel
    exact ⟨a2, R1.seq R2, fun Q hQ => wp_seq (w1 _ (w2 Q hQ))⟩
  | scope x ix =>
    intro p t t' a hp ht A
    have hp : pureC P G N x = some p := hp
    obtain ⟨a1, R1, w1⟩ := ix hp ht A
    exact ⟨a1, R1, fun Q hQ => wp_scope_straight (w1 _ hQ)⟩
  | _ => intro p t t' a hp; simp [pureC] at hp

theorem insL_val (s : Nat → Int) (j : Nat) (c c' : Int) (l : List LV) : linV s c' (insL ⟨j, Int.add c (Int.mul (-1) c'), 0, 1⟩ l) = if yesB s j then linV s c l else linV s c' l := by
  rw [linV_ins]
  have h1 := clampI_in 0 1 (s j)
  have e : linV s c l = (c - c') + linV s c' l := by rw [← linV_shift, show c - c' + c' = c by omega]
  have ev : (LV.mk j (Int.add c (Int.mul (-1) c')) 0 1).val s = (c - c') * clampI 0 1 (s j) := by
    show (c + -1 * c') * _ = _
    rw [show c + -1 * c' = c - c' by omega]
  rw [ev]
  unfold yesB
  by_cases hy : clampI 0 1 (s j) = 1
  · rw [hy]; simp [e]
  · have h0 : clampI 0 1 (s j) = 0 := by omega
    rw [h0]; simp
theorem linMerge_spec {j : Nat} {a b r : AV} (hr : linMerge j a b = some r) (ρ : Ren) {d : Nat → Prop} (ha : okv d a) (hb : okv d b) : toV ρ r = (if yesB ρ.s j then toV ρ a else toV ρ b) ∧ ∀ d, okv d r := by
  unfold linMerge at hr
  split at hr <;> try (simp at hr; done)
  rename_i la c l hsa
  split at hr <;> try (simp at hr; done)
  rename_i lb c' l' hsb
  split at hr <;> try (simp at hr; done)
  rename_i e
  simp only [Bool.and_eq_true, Nat.beq_eq] at e
  obtain ⟨rfl, e2⟩ := e
  have e2 := lvsEq_sound _ _ e2
  subst e2
  obtain ⟨h1, h2⟩ := mkStr_spec hr ρ
  refine ⟨?_, h2⟩
  rw [h1, insL_val, (strV_spec hsa ρ ha).1, (strV_spec hsb ρ hb).1]
  split <;> rfl
theorem flatA_spec {v : AV} (h : flatA v = true) (ρ : Ren) : notAgg (toV ρ v) = toV ρ v := by
  cases v <;> try rfl
  · simp [flatA] at h
  · simp only [toV]
    split <;> (rename_i x _; cases h : (toV ρ _ : Value) <;> rfl)
theorem mergeV_spec {j : Nat} {a b r : AV} (hr : mergeV j a b = some r) (ρ : Ren) {d : Nat → Prop} (ha : okv d a) (hb : okv d b) : toV ρ r = (if yesB ρ.s j then toV ρ a else toV ρ b) ∧ okv d r := by
  unfold mergeV at hr
  split at hr
  · rename_i e
    simp only [Option.some.injEq] at hr; subst hr
    rw [avEq_sound _ _ e]
    exact ⟨by split <;> rfl, hb⟩
  · split at hr
    · rename_i r' hr'
      simp only [Option.some.injEq] at hr; subst hr
      obtain ⟨h1, h2⟩ := linMerge_spec hr' ρ ha hb
      exact ⟨h1, h2 d⟩
    · split at hr
      · rename_i e
        simp only [Bool.and_eq_true] at e
        simp only [Option.some.injEq] at hr; subst hr
        refine ⟨?_, ha, hb⟩
        simp only [toV]
        split
        · exact flatA_spec e.1 ρ
        · exact flatA_spec e.2 ρ
      · simp at hr
theorem mergeT_spec {j : Nat} {t1 t2 : T} (hN : N ≤ 256) {d : Nat → Prop} (h1 : ∀ i, i < N → okv d (slot t1 i)) (h2 : ∀ i, i < N → okv d (slot t2 i)) (ρ : Ren) : ∀ {l : List Nat} {t : T}, mergeT N j t1 t2 l = some t →
    defsOf t = defsOf t1 ∧ ∀ i, i < N → (i ∉ l → slot t i = slot t1 i) ∧ (i ∈ l → okv d (slot t i) ∧ toV ρ (slot t i) = if yesB ρ.s j then toV ρ (slot t1 i) else toV ρ (slot t2 i))
  | [], t, h => by
    simp only [mergeT, Option.some.injEq] at h; subst h
    exact ⟨rfl, fun i _ => ⟨fun _ => rfl, fun h => by simp at h⟩⟩
  | k :: l, t, h => by
    simp only [mergeT] at h
    split at h <;> try (simp at h; done)
    rename_i t0 h0
    split at h <;> try (simp at h; done)
    rename_i hk
    rw [blt_eq] at hk
    have hk := of_decide_eq_true hk
    split at h <;> try (simp at h; done)
    rename_i v hv
    simp only [Option.some.injEq] at h; subst h
    obtain ⟨g1, g2⟩ := mergeT_spec hN h1 h2 ρ h0
    obtain ⟨m1, m2⟩ := mergeV_spec hv ρ (h1 k hk) (h2 k hk)
    refine ⟨by rw [defsOf_setSlot]; exact g1, fun i hi => ?_⟩
    by_cases e : k = i
    · subst e
      rw [slot_set_same _ _ _ (by omega)]
      exact ⟨fun hn => absurd (List.mem_cons_self ..) hn, fun _ => ⟨m2, m1⟩⟩
    · rw [slot_set_other _ _ (by omega) (by omega) e]
      obtain ⟨q1, q2⟩ := g2 i hi
      exact ⟨fun hn => q1 fun hl => hn (List.mem_cons_of_mem _ hl), fun hm => q2 ((List.mem_cons.1 hm).resolve_left (Ne.symm e))⟩
end

theorem guardOf_rel {ops : Array Oper} {o : Oper} {N : Nat} {g : Option (Nat × Bool)} (h : guardOf ops.toList o = some g) (hl : guardLim N g = true) : GRel ops o N g := by
  unfold guardOf at h
  cases hg : o.guard with
  | none => rw [hg] at h; simp only [Option.some.injEq] at h; rw [← h]; exact hg
  | some jb =>
    obtain ⟨j, bb⟩ := jb
    rw [hg] at h
    simp only at h
    split at h
    · rename_i o' ho'
      split at h
      · rename_i s hs
        simp only [Option.some.injEq] at h
        rw [← h] at hl ⊢
        simp only [guardLim, blt_eq, decide_eq_true_eq] at hl
        refine ⟨j, hg, ?_, hl⟩
        have : ops[j]? = some o' := by simpa using ho'
        rw [this]; exact hs
      · simp at h
    · simp at h

/-- what a continuation owes -/
def KOK (G N : Nat) (w0 : Base) (ρ : Ren) (h : Hp) (nx : Nat) (k : KR) (R : Act → World → Prop) : Prop :=
  ∀ ρ' t' h' n' a' w', Ext ρ h nx ρ' h' n' → HRel G w0 ρ' h' n' w' → ARel ρ' N t' a' → k t' h' n' = .ok → R a' w'
theorem KOK.ext {G N : Nat} {w0 : Base} {ρ ρ' : Ren} {h h' : Hp} {nx nx' : Nat} {k : KR} {R : Act → World → Prop} (x : KOK G N w0 ρ h nx k R) (e : Ext ρ h nx ρ' h' nx') : KOK G N w0 ρ' h' nx' k R :=
  fun _ _ _ _ _ _ e' => x _ _ _ _ _ _ (e.trans e')

section
variable {P : Program} {G N F : Nat} {w0 : Base} {self : Self}

theorem seqB_sound (hself : SelfOK P G w0 self) {ops : Array Oper} {k : KR} {Q : Exit → Act → World → Prop} : ∀ (l : List Oper) {ρ : Ren} {h : Hp} {nx : Nat} {w : World} {t : T} {a : Act},
    HRel G w0 ρ h nx w → ARel ρ N t a → (seqB P G N ops.toList l).run self k t h nx = .ok → KOK G N w0 ρ h nx k (Q .normal) → wpList P ops Q l a w
  | [], ρ, h, nx, w, t, a, H, A, hr, hk => hk _ _ _ _ _ _ (Ext.refl _ _ _) H A hr
  | o :: l, ρ, h, nx, w, t, a, H, A, hr, hk => by
    simp only [seqB] at hr
    split at hr
    · simp [badB] at hr
    · rename_i g hg
      split at hr
      · rename_i hl
        simp only [Bool.and_eq_true] at hl
        have hr : (guardB g o.dst (execB (errK N o.dst) (compOp P G N o.op) o.dst)).run self ((seqB P G N ops.toList l).run self k) t h nx = .ok := hr
        rw [guardB_run] at hr
        have rel := guardOf_rel hg hl.1
        split at hr
        · simp at hr
        rename_i hkn
        have hw : Region.wanted o (yielded ops a.tmps) = wantedA g t := wanted_spec rel (fun s b e => by
          rw [e] at rel
          obtain ⟨_, _, _, hlt⟩ := rel
          exact A.slots.at_ s hlt) hkn
        unfold wpList
        rw [hw]
        split at hr
        · rename_i e
          rw [e]
          simp only [Bool.false_eq_true, if_false]
          have := A.put (v := undefA) hl.2 ⟨⟩
          rw [show toV ρ undefA = undef by simp [undefA, toV, toVs, undef]] at this
          exact seqB_sound hself l H this hr hk
        · rename_i e
          rw [e]
          simp only [if_true]
          refine .inl (exec_sound (compOp_ok o) hself H A (execB_run _ _ _ _ _ _ _ _ hr) ?_)
          intro ρ' v t' h' n' w' a' E' H' A' hv hk'
          exact seqB_sound hself l H' (A'.put hl.2 hv) hk' (hk.ext E')
      · simp [badB] at hr

theorem regionB_sound (hm : P.follows .mixedOrders = true) (hself : SelfOK P G w0 self) {id : Nat} {ops : Array Oper} {d : Bool} {k : KR} {ke : Nat → KR} {kr : KR} {Q : Exit → Act → World → Prop}
    {ρ : Ren} {h : Hp} {nx : Nat} {w : World} {t : T} {a : Act} (H : HRel G w0 ρ h nx w) (A : ARel ρ N t a) (hr : (regionB P G N ops d).run self k ke kr t h nx = .ok)
    (hk : KOK G N w0 ρ h nx k (Q .normal)) : (Code.region id ops d).wp P Q a w := by
  cases d with
  | false =>
    exact wp_region_list (seqB_sound hself _ H A hr hk)
  | true =>
    have hr : (anyB P G N ops.toList).run self k t h nx = .ok := hr
    unfold anyB at hr
    split at hr
    · simp [badB] at hr
    · rename_i C hC
      split at hr
      · rename_i hp
        rw [compC_run] at hr
        exact region_any (planB_spec (order_spec P G N _ hC) hp) hself hm H A hr hk
      · simp [badB] at hr

theorem comp_sound (hm : P.follows .mixedOrders = true) (hself : SelfOK P G w0 self) : ∀ (c : Code) {k : KR} {ke : Nat → KR} {kr : KR} {Q : Exit → Act → World → Prop}
    {ρ : Ren} {h : Hp} {nx : Nat} {w : World} {t : T} {a : Act}, HRel G w0 ρ h nx w → ARel ρ N t a → (comp P G N F c).run self k ke kr t h nx = .ok →
    KOK G N w0 ρ h nx k (Q .normal) → (∀ j, KOK G N w0 ρ h nx (ke j) (Q (.exit j))) → KOK G N w0 ρ h nx kr (Q .ret) → c.wp P Q a w := by
  intro c
  induction c with
  | skip => intro k ke kr Q ρ h nx w t a H A hr hk _ _; exact wp_skip (hk _ _ _ _ _ _ (Ext.refl _ _ _) H A hr)
  | region id ops d => intro k ke kr Q ρ h nx w t a H A hr hk _ _; exact regionB_sound hm hself H A hr hk
  | seq x y ix iy =>
    intro k ke kr Q ρ h nx w t a H A hr hk he ht
    have hr : (comp P G N F x).run self ((comp P G N F y).run self k ke kr) ke kr t h nx = .ok := hr
    refine wp_seq (ix H A hr ?_ (fun j => he j) ht)
    intro ρ' t' h' n' a' w' E' H' A' hr'
    exact iy H' A' hr' (hk.ext E') (fun j => (he j).ext E') (ht.ext E')
  | cond c x y ix iy =>
    intro k ke kr Q ρ h nx w t a H A hr hk he ht
    have hr : (condB G N c (pureC P G N x) (pureC P G N y) (comp P G N F x) (comp P G N F y)).run self k ke kr t h nx = .ok := hr
    unfold condB at hr
    split at hr
    · simp at hr
    · rename_i f hf
      obtain ⟨_, e⟩ := opnd_sound H A.slots hf
      simp only at hr
      split at hr
      · rename_i ef
        rw [ef] at e
        exact wp_cond_true (by rw [e]; simp [toV]) (ix H A hr hk he ht)
      · rename_i ef
        rw [ef] at e
        exact wp_cond_false (by rw [e]; simp [toV]) (iy H A hr hk he ht)
      · rename_i j ef
        rw [ef] at e
        split at hr <;> try (simp at hr; done)
        rename_i tm hm
        unfold bothT at hm
        split at hm <;> try (simp at hm; done)
        rename_i p hp
        split at hm <;> try (simp at hm; done)
        rename_i q hq
        split at hm <;> try (simp at hm; done)
        rename_i t1 ht1
        split at hm <;> try (simp at hm; done)
        rename_i t2 ht2
        obtain ⟨a1, R1, w1⟩ := pureC_sound H x hp ht1 A
        obtain ⟨a2, R2, w2⟩ := pureC_sound H y hq ht2 A
        have hN := A.slots.lim
        obtain ⟨d1, ms⟩ := mergeT_spec hN (fun i hi => (R1.rel.slots.at_ i hi).1) (fun i hi => (R2.rel.slots.at_ i hi).1) ρ hm
        cases hy : yesB ρ.s j with
        | true =>
          refine wp_cond_true (by rw [e]; simp [toV, hy]) (w1 Q (hk _ _ _ _ _ _ (Ext.refl _ _ _) H ⟨⟨R1.rel.slots.size, hN, fun i hi => ?_⟩, by rw [d1]; exact R1.rel.defs⟩ hr))
          obtain ⟨k1, k2⟩ := ms i hi
          obtain ⟨o1, o2⟩ := R1.rel.slots.at_ i hi
          by_cases hin : i ∈ p.ds ++ q.ds
          · obtain ⟨g1, g2⟩ := k2 hin
            rw [hy, if_pos rfl] at g2
            exact ⟨g1, by rw [g2]; exact o2⟩
          · rw [k1 hin]; exact ⟨o1, o2⟩
        | false =>
          refine wp_cond_false (by rw [e]; simp [toV, hy]) (w2 Q (hk _ _ _ _ _ _ (Ext.refl _ _ _) H ⟨⟨R2.rel.slots.size, hN, fun i hi => ?_⟩, by rw [d1, R1.defs, ← R2.defs]; exact R2.rel.defs⟩ hr))
          obtain ⟨k1, k2⟩ := ms i hi
          obtain ⟨o1, o2⟩ := R2.rel.slots.at_ i hi
          by_cases hin : i ∈ p.ds ++ q.ds
          · obtain ⟨g1, g2⟩ := k2 hin
            rw [hy, if_neg (by simp)] at g2
            exact ⟨g1, by rw [g2]; exact o2⟩
          · rw [List.mem_append, not_or] at hin
            rw [k1 (by rw [List.mem_append, not_or]; exact hin), R1.same i hi hin.1, ← R2.same i hi hin.2]; exact ⟨o1, o2⟩
      · simp at hr
  | block id x ix =>
    intro k ke kr Q ρ h nx w t a H A hr hk he ht
    have hr : (comp P G N F x).run self k (fun j => match Nat.beq j id with | true => k | false => ke j) kr t h nx = .ok := hr
    refine wp_block (ix H A hr hk (fun j => ?_) ht)
    by_cases e : j = id
    · subst e
      have : (match Nat.beq j j with | true => k | false => ke j) = k := by rw [Nat.beq_refl]
      rw [this]
      intro ρ' t' h' n' a' w' E' H' A' hr'
      simp only [Exit.inBlock, if_true]
      exact hk _ _ _ _ _ _ E' H' A' hr'
    · have : (match Nat.beq j id with | true => k | false => ke j) = ke j := by
        have : Nat.beq j id = false := by
          cases h : Nat.beq j id with
          | false => rfl
          | true => exact absurd (Nat.eq_of_beq_eq_true h) e
        rw [this]
      rw [this]
      intro ρ' t' h' n' a' w' E' H' A' hr'
      simp only [Exit.inBlock, if_neg e]
      exact he j _ _ _ _ _ _ E' H' A' hr'
  | loop x ix =>
    intro k ke kr Q ρ h nx w t a H A hr hk he ht
    have hr : loopN (fun k => (comp P G N F x).run self k ke kr) F t h nx = .ok := hr
    refine wp_loop_rounds F ?_
    have key : ∀ (n : Nat) {ρ' : Ren} {h' : Hp} {n' : Nat} {w' : World} {t' : T} {a' : Act}, Ext ρ h nx ρ' h' n' → HRel G w0 ρ' h' n' w' → ARel ρ' N t' a' →
        loopN (fun k => (comp P G N F x).run self k ke kr) n t' h' n' = .ok → Code.rounds P x Q n a' w' := by
      intro n
      induction n with
      | zero => intro ρ' h' n' w' t' a' _ _ _ hr; simp [loopN] at hr
      | succ n ih =>
        intro ρ' h' n' w' t' a' E' H' A' hr
        have hr : (comp P G N F x).run self (loopN (fun k => (comp P G N F x).run self k ke kr) n) ke kr t' h' n' = .ok := hr
        rw [rounds_succ]
        refine ix H' A' hr ?_ (fun j => (he j).ext E') (ht.ext E')
        intro ρ2 t2 h2 n2 a2 w2 E2 H2 A2 hr2
        exact ih (E'.trans E2) H2 A2 hr2
    exact key F (Ext.refl _ _ _) H A hr
  | rangeFunc f ps x y ix iy => intro k ke kr Q ρ h nx w t a H A hr; simp [comp] at hr
  | exit id => intro k ke kr Q ρ h nx w t a H A hr _ he _; exact wp_exit (he id _ _ _ _ _ _ (Ext.refl _ _ _) H A hr)
  | scope x ix =>
    intro k ke kr Q ρ h nx w t a H A hr hk he ht
    have hr : (comp P G N F x).run self k ke kr t h nx = .ok := hr
    exact wp_scope_straight (ix H A hr hk he ht)
  | label l => intro k ke kr Q ρ h nx w t a H A hr hk _ _; exact wp_label (hk _ _ _ _ _ _ (Ext.refl _ _ _) H A hr)
  | goto l => intro k ke kr Q ρ h nx w t a H A hr; simp [comp] at hr
  | ret => intro k ke kr Q ρ h nx w t a H A hr _ _ ht; exact wp_ret (ht _ _ _ _ _ _ (Ext.refl _ _ _) H A hr)
  | refuse s => intro k ke kr Q ρ h nx w t a H A hr; simp [comp] at hr
end
end Go.Vai
