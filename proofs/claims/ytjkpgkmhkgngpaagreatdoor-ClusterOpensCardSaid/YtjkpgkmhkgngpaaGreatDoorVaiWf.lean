/- A region made ready: its order found and checked, its operations boxed. -/
import Derived.Test.YtjkpgkmhkgngpaaGreatDoorVaiWe
namespace Go.Vai
open Go.RowKit

def tmpsOf : List Operand → List Nat
  | [] => []
  | x :: l => match x with
    | .tmp s => s :: tmpsOf l
    | _ => tmpsOf l
theorem mem_tmpsOf : ∀ (l : List Operand) (s : Nat), .tmp s ∈ l → s ∈ tmpsOf l
  | [], _, h => by simp at h
  | x :: l, s, h => by
    unfold tmpsOf
    rcases List.mem_cons.1 h with rfl | h
    · simp
    · have := mem_tmpsOf l s h
      split <;> simp [this]

def guardOf (ops : List Oper) (o : Oper) : Option (Option (Nat × Bool)) := match o.guard with
  | none => some none
  | some (j, b) => match ops[j]? with
    | some o' => match o'.dst with
      | some s => some (some (s, b))
      | none => none
    | none => none

def bit (i : Nat) : Nat := Nat.shiftLeft 1 i
theorem testBit_bit (i j : Nat) : Nat.testBit (bit i) j = decide (i = j) := by
  show Nat.testBit (1 <<< i) j = _
  rw [Nat.testBit_shiftLeft]
  by_cases e : i = j
  · subst e; simp
  · rcases Nat.lt_or_ge j i with h | h
    · simp [e]; omega
    · have : ∃ k, j - i = k + 1 := ⟨j - i - 1, by omega⟩
      obtain ⟨k, hk⟩ := this
      simp [e, hk]
      intro _
      rw [Nat.testBit_succ]; simp

def bindsAny (e : Edge) : Bool := match e.ground with
  | .textOnly _ => false
  | .gcOnly _ => false
  | _ => true
theorem bindsAny_eq (e : Edge) : bindsAny e = Region.binds .any e := by
  unfold bindsAny Region.binds
  split <;> rename_i h <;> simp_all

def findAn (j : Nat) : List RO → Nat
  | [] => 0
  | q :: C => match Nat.beq q.i j with
    | true => q.an
    | false => findAn j C
def ancOf (C : List RO) : List Edge → Nat
  | [] => 0
  | e :: es => match bindsAny e with
    | true => Nat.lor (Nat.lor (bit e.on) (findAn e.on C)) (ancOf C es)
    | false => ancOf C es

theorem findAn_spec : ∀ (C : List RO) (j b : Nat), Nat.testBit (findAn j C) b = true → ∃ p, p ∈ C ∧ p.i = j ∧ p.anc b = true
  | [], j, b, h => by simp [findAn] at h
  | q :: C, j, b, h => by
    have e : findAn j (q :: C) = (match Nat.beq q.i j with | true => q.an | false => findAn j C) := rfl
    rw [e] at h
    split at h
    · rename_i hq
      exact ⟨q, by simp, Nat.eq_of_beq_eq_true hq, h⟩
    · obtain ⟨p, hp, h⟩ := findAn_spec C j b h
      exact ⟨p, by simp [hp], h⟩
theorem ancOf_spec (C : List RO) : ∀ (es : List Edge) (j : Nat), Nat.testBit (ancOf C es) j = true →
    ∃ e, e ∈ es ∧ Region.binds .any e = true ∧ (e.on = j ∨ ∃ p, p ∈ C ∧ p.i = e.on ∧ p.anc j = true)
  | [], j, h => by simp [ancOf] at h
  | e :: es, j, h => by
    have q : ancOf C (e :: es) = (match bindsAny e with | true => Nat.lor (Nat.lor (bit e.on) (findAn e.on C)) (ancOf C es) | false => ancOf C es) := rfl
    rw [q] at h
    split at h
    · rename_i hb
      rw [bindsAny_eq] at hb
      have h : (bit e.on ||| findAn e.on C ||| ancOf C es).testBit j = true := h
      rw [Nat.testBit_or, Nat.testBit_or, testBit_bit] at h
      simp only [Bool.or_eq_true, decide_eq_true_eq] at h
      rcases h with (h | h) | h
      · exact ⟨e, by simp, hb, .inl h⟩
      · exact ⟨e, by simp, hb, .inr (findAn_spec C e.on j h)⟩
      · obtain ⟨e', h1, h2⟩ := ancOf_spec C es j h
        exact ⟨e', by simp [h1], h2⟩
    · obtain ⟨e', h1, h2⟩ := ancOf_spec C es j h
      exact ⟨e', by simp [h1], h2⟩

/-! ### the records -/
def effK (oc : OC) : Bool := match oc with
  | .pure _ => false
  | .read _ => false
  | .new _ => false
  | _ => true
def eqO (x : Option Nat) (s : Nat) : Bool := match x with
  | some d => Nat.beq d s
  | none => false
def looksB (q : RO) (d : Option Nat) : Bool := match d with
  | none => false
  | some s => or (q.rs.any fun r => Nat.beq r s) (match q.g with | some p => Nat.beq p.1 s | none => false)
theorem looksB_spec {q : RO} {s : Nat} (h : q.looks s) : looksB q (some s) = true := by
  unfold looksB
  rcases h with h | ⟨b, h⟩
  · simp only [Bool.or_eq_true]
    exact .inl (List.any_eq_true.2 ⟨s, h, Nat.beq_refl s⟩)
  · simp [h]

section
variable (P : Program) (G N : Nat) (ops : List Oper)

noncomputable def mkAll : List Oper → Nat → List RO → Option (List RO)
  | [], _, acc => some acc
  | o :: l, i, acc => match guardOf ops o with
    | some g => mkAll l (Nat.succ i) ({ i, o, rs := tmpsOf o.op.operands.toList, g, dst := o.dst, oc := compOp P G N o.op, eff := effK (compOp P G N o.op), an := ancOf acc o.after.toList } :: acc)
    | none => none

structure ROBase (q : RO) : Prop where
  at_ : ops[q.i]? = some q.o
  rs : q.rs = tmpsOf q.o.op.operands.toList
  g : guardOf ops q.o = some q.g
  dst : q.dst = q.o.dst
  oc : q.oc = compOp P G N q.o.op

theorem mkAll_spec : ∀ (l : List Oper) (i : Nat) (acc r : List RO), ops.drop i = l → (∀ q, q ∈ acc → ROBase P G N ops q) → mkAll P G N ops l i acc = some r → ∀ q, q ∈ r → ROBase P G N ops q
  | [], i, acc, r, _, ha, h, q, hq => by simp only [mkAll, Option.some.injEq] at h; subst h; exact ha q hq
  | o :: l, i, acc, r, hd, ha, h, q, hq => by
    simp only [mkAll] at h
    split at h
    · rename_i g hg
      refine mkAll_spec l _ _ r ?_ ?_ h q hq
      · rw [Nat.succ_eq_add_one, ← List.drop_drop, hd]; rfl
      · intro p hp
        rcases List.mem_cons.1 hp with rfl | hp
        · refine ⟨?_, rfl, hg, rfl, rfl⟩
          have : (ops.drop i)[0]? = some o := by rw [hd]; rfl
          simpa [List.getElem?_drop] using this
        · exact ha p hp
    · simp at h

def setEff (acc : List RO) (q : RO) : RO :=
  { q with eff := or q.eff (acc.any fun p => and (not (Nat.beq p.i q.i)) (and (looksB p q.dst) (not (p.anc q.i)))) }
theorem setEff_base {acc : List RO} {q : RO} (h : ROBase P G N ops q) : ROBase P G N ops (setEff acc q) := ⟨h.at_, h.rs, h.g, h.dst, h.oc⟩

/-- how many effects come before it -/
def stageOf (effs : List RO) (q : RO) : Nat := (effs.filter fun e => q.anc e.i).length
def orderOf (l : List RO) (effs : List RO) : Nat → List RO
  | 0 => (l.filter fun q => and (Nat.beq (stageOf effs q) effs.length) (not q.eff))
  | n + 1 => (l.filter fun q => and (Nat.beq (stageOf effs q) (effs.length - (n + 1))) (not q.eff)) ++
      (effs.filter fun q => Nat.beq (stageOf effs q) (effs.length - (n + 1))) ++ orderOf l effs n

theorem orderOf_mem {l effs : List RO} : ∀ (n : Nat) (q : RO), q ∈ orderOf l effs n → q ∈ l ∨ q ∈ effs
  | 0, q, h => .inl (List.mem_filter.1 h).1
  | n + 1, q, h => by
    simp only [orderOf, List.mem_append] at h
    rcases h with (h | h) | h
    · exact .inl (List.mem_filter.1 h).1
    · exact .inr (List.mem_filter.1 h).1
    · exact orderOf_mem n q h

noncomputable def order : Option (List RO) := match mkAll P G N ops ops 0 [] with
  | none => none
  | some r =>
    let l := (r.map (setEff r)).reverse
    let effs := l.filter RO.eff
    some (orderOf l effs effs.length)

theorem order_spec {C : List RO} (h : order P G N ops = some C) : ∀ q, q ∈ C → ROBase P G N ops q := by
  unfold order at h
  split at h
  · simp at h
  · rename_i r hr
    simp only [Option.some.injEq] at h; subst h
    have hb := mkAll_spec P G N ops ops 0 [] r (by simp) (by simp) hr
    have hl : ∀ q, q ∈ (r.map (setEff r)).reverse → ROBase P G N ops q := by
      intro q hq
      simp only [List.mem_reverse, List.mem_map] at hq
      obtain ⟨p, hp, rfl⟩ := hq
      exact setEff_base P G N ops (hb p hp)
    intro q hq
    rcases orderOf_mem _ q hq with h | h
    · exact hl q h
    · exact hl q (List.mem_filter.1 h).1
end

/-! ### what is checked -/
def disj (x y : Option Nat) : Bool := match x with
  | none => true
  | some a => match y with
    | none => true
    | some b => not (Nat.beq a b)
def twoB (p q : RO) : Bool :=
  and (not (Nat.beq p.i q.i)) (and (disj p.dst q.dst) (and (or (not (or p.eff (looksB q p.dst))) (q.anc p.i)) (or (not (looksB p q.dst)) (and q.eff (q.anc p.i)))))
theorem twoB_spec {p q : RO} (h : twoB p q = true) : Two p q := by
  simp only [twoB, Bool.and_eq_true, Bool.or_eq_true, Bool.not_eq_true', Bool.or_eq_false_iff] at h
  obtain ⟨h1, h2, h3, h4⟩ := h
  refine ⟨fun e => ?_, fun d hd e => ?_, fun d hd hl => ?_, fun d hd hl => ?_, fun he => ?_⟩
  · rw [e, Nat.beq_refl] at h1; simp at h1
  · rw [hd, e] at h2; simp [disj] at h2
  · rcases h3 with h3 | h3
    · have := looksB_spec hl
      rw [← hd, h3.2] at this; simp at this
    · exact h3
  · rcases h4 with h4 | h4
    · have := looksB_spec hl
      rw [← hd, h4] at this; simp at this
    · exact h4
  · rcases h3 with h3 | h3
    · rw [he] at h3; simp at h3
    · exact h3

def pairsB : List RO → Bool
  | [] => true
  | p :: l => and (l.all (twoB p)) (pairsB l)
theorem pairsB_spec : ∀ (l : List RO), pairsB l = true → l.Pairwise Two
  | [], _ => .nil
  | p :: l, h => by
    simp only [pairsB, Bool.and_eq_true, List.all_eq_true] at h
    exact .cons (fun q hq => twoB_spec (h.1 q hq)) (pairsB_spec l h.2)

def notSelect : Op → Bool
  | .select .. => false
  | _ => true
def oneB (N : Nat) (C : List RO) (q : RO) : Bool :=
  and (notSelect q.o.op) (and (q.rs.all fun s => Nat.blt s N) (and (dstIn N q.dst) (and (match q.g with | some p => Nat.blt p.1 N | none => true)
    (and (q.o.after.toList.all fun e => or (not (bindsAny e)) (Nat.blt e.on q.i)) (and (not (looksB q q.dst)) (Nat.beq q.an (ancOf C q.o.after.toList)))))))
def maskOf : List RO → Nat
  | [] => 0
  | q :: C => Nat.lor (bit q.i) (maskOf C)
theorem maskOf_spec : ∀ (C : List RO) (j : Nat), Nat.testBit (maskOf C) j = true → ∃ q, q ∈ C ∧ q.i = j
  | [], j, h => by simp [maskOf] at h
  | q :: C, j, h => by
    have e : maskOf (q :: C) = (bit q.i ||| maskOf C) := rfl
    rw [e, Nat.testBit_or, testBit_bit, Bool.or_eq_true, decide_eq_true_eq] at h
    rcases h with h | h
    · exact ⟨q, by simp, h⟩
    · obtain ⟨p, hp, e⟩ := maskOf_spec C j h
      exact ⟨p, by simp [hp], e⟩

def planB (N n : Nat) (C : List RO) : Bool :=
  and (pairsB C) (and (C.all (oneB N C)) (Nat.beq (maskOf C) (Nat.sub (bit n) 1)))

theorem planB_spec {P : Program} {G N : Nat} {ops : Array Oper} {C : List RO} (hb : ∀ q, q ∈ C → ROBase P G N ops.toList q) (h : planB N ops.toList.length C = true) : Plan P G N ops C := by
  simp only [planB, Bool.and_eq_true, List.all_eq_true] at h
  obtain ⟨h1, h2, h3⟩ := h
  have atq : ∀ q, q ∈ C → ops[q.i]? = some q.o := fun q hq => by have := (hb q hq).at_; simpa using this
  refine ⟨fun q hq => ⟨q.o, ?_⟩, pairsB_spec C h1, fun i hi => ?_, fun q hq o ho j hj => ?_⟩
  · have b := hb q hq
    have c := h2 q hq
    simp only [oneB, Bool.and_eq_true, List.all_eq_true, blt_eq, decide_eq_true_eq, Bool.or_eq_true, Bool.not_eq_true'] at c
    obtain ⟨c1, c2, c3, c4, c5, c6, _⟩ := c
    refine ⟨atq q hq, by rw [b.oc]; exact compOp_ok q.o, fun cs bb e => by rw [e] at c1; simp [notSelect] at c1, fun s hs => ?_, fun s hs => c2 s hs, ?_, b.dst.symm, fun d hd => ?_, fun e he hbn => ?_, fun d hd hl => ?_⟩
    · rw [b.rs]; exact mem_tmpsOf _ s (by simpa using hs)
    · have g := b.g
      unfold guardOf at g
      cases hg : q.o.guard with
      | none => rw [hg] at g; simp only [Option.some.injEq] at g; rw [← g]; exact hg
      | some jb =>
        obtain ⟨j, bb⟩ := jb
        rw [hg] at g
        simp only at g
        split at g
        · rename_i o' ho'
          split at g
          · rename_i s hs
            simp only [Option.some.injEq] at g
            rw [← g] at c4 ⊢
            simp only [decide_eq_true_eq] at c4
            refine ⟨j, hg, ?_, c4⟩
            have : ops[j]? = some o' := by simpa using ho'
            rw [this]; exact hs
          · simp at g
        · simp at g
    · rw [hd] at c3
      simp only [dstIn, blt_eq, decide_eq_true_eq] at c3
      exact c3
    · rcases c5 e (by simpa using he) with h | h
      · rw [bindsAny_eq, hbn] at h; simp at h
      · exact h
    · rw [hd, looksB_spec hl] at c6; simp at c6
  · have e := Nat.eq_of_beq_eq_true h3
    refine maskOf_spec C i ?_
    rw [e]
    have hs : ops.toList.length = ops.size := by simp
    rw [hs]
    show Nat.testBit (1 <<< ops.size - 1) i = true
    rw [Nat.one_shiftLeft, Nat.testBit_two_pow_sub_one]
    simpa using hi
  · rw [atq q hq] at ho
    cases ho
    have c := h2 q hq
    simp only [oneB, Bool.and_eq_true] at c
    have e := Nat.eq_of_beq_eq_true c.2.2.2.2.2.2
    unfold RO.anc at hj
    rw [e] at hj
    obtain ⟨e', h1, h2⟩ := ancOf_spec C _ j hj
    exact ⟨e', by simpa using h1, h2⟩
end Go.Vai
