/- Numbers, bools and strings: the evaluator's operations, and that they are the model's. -/
import Derived.Test.YtjkpgkmhkgngpaaGreatDoorVaiB
import Derived.Laws.Strings
namespace Go.Vai
open Go.RowKit

/-! ### numbers -/
def maxN : IntKind → Nat
  | .i8 => 127 | .i16 => 32767 | .i32 => 2147483647 | .i64 => 9223372036854775807
  | .u8 => 255 | .u16 => 65535 | .u32 => 4294967295 | .u64 => 18446744073709551615
/-- how many bits the numbers from 0 to the greatest one have -/
def mbits : IntKind → Nat
  | .i8 => 7 | .i16 => 15 | .i32 => 31 | .i64 => 63
  | .u8 => 8 | .u16 => 16 | .u32 => 32 | .u64 => 64

def wrapI (k : IntKind) (n : Int) : Int :=
  match n with
  | .ofNat m => match Nat.ble m (maxN k) with
    | true => .ofNat m
    | false => k.wrap (.ofNat m)
  | .negSucc m => k.wrap (.negSucc m)

theorem wrap_in (k : IntKind) (m : Nat) (h : m ≤ maxN k) : k.wrap (m : Int) = m := by
  cases k <;> simp [IntKind.wrap, IntKind.bits, IntKind.signed, maxN] at * <;> omega

theorem wrapI_eq (k : IntKind) (n : Int) : wrapI k n = k.wrap n := by
  cases n with
  | ofNat m =>
    simp only [wrapI]
    cases h : Nat.ble m (maxN k) with
    | true => exact (wrap_in k m (Nat.le_of_ble_eq_true h)).symm
    | false => rfl
  | negSucc m => rfl

def ltI (x y : Int) : Bool :=
  match x, y with
  | .ofNat a, .ofNat b => Nat.blt a b
  | .negSucc _, .ofNat _ => true
  | .ofNat _, .negSucc _ => false
  | .negSucc a, .negSucc b => Nat.blt b a
def eqI (x y : Int) : Bool :=
  match x, y with
  | .ofNat a, .ofNat b => Nat.beq a b
  | .negSucc a, .negSucc b => Nat.beq a b
  | _, _ => false

theorem blt_eq (a b : Nat) : Nat.blt a b = decide (a < b) := by
  rw [Bool.eq_iff_iff, Nat.blt_eq, decide_eq_true_iff]
theorem beq_eq (a b : Nat) : Nat.beq a b = decide (a = b) := by
  rw [Bool.eq_iff_iff, Nat.beq_eq, decide_eq_true_iff]
theorem ble_eq (a b : Nat) : Nat.ble a b = decide (a ≤ b) := by
  rw [Bool.eq_iff_iff, Nat.ble_eq, decide_eq_true_iff]

theorem ltI_eq (x y : Int) : ltI x y = decide (x < y) := by
  cases x <;> cases y <;> simp only [ltI, blt_eq]
  · simp
  · symm; rw [decide_eq_false_iff_not]; simp only [Int.ofNat_eq_natCast]; omega
  · symm; rw [decide_eq_true_iff]; simp only [Int.ofNat_eq_natCast]; omega
  · rw [Bool.eq_iff_iff]; simp only [decide_eq_true_iff]; omega
theorem eqI_eq (x y : Int) : eqI x y = (x == y) := by
  rw [Bool.eq_iff_iff, beq_iff_eq]
  cases x <;> cases y <;> simp only [eqI, beq_eq, decide_eq_true_iff, Int.ofNat_eq_natCast] <;> first | omega | skip
  · constructor
    · intro h; cases h
    · intro h; omega
  · constructor
    · intro h; cases h
    · intro h; omega

def bitsGen (op : BinOp) (k : IntKind) (x y : Int) : Option Int :=
  let a := BitVec.ofInt k.bits x
  let b := BitVec.ofInt k.bits y
  match op with
  | .and => some (k.wrap (a &&& b).toNat)
  | .or => some (k.wrap (a ||| b).toNat)
  | .xor => some (k.wrap (a ^^^ b).toNat)
  | .andNot => some (k.wrap (a &&& ~~~b).toNat)
  | _ => none
def fullN : IntKind → Nat
  | .i8 | .u8 => 255 | .i16 | .u16 => 65535 | .i32 | .u32 => 4294967295 | .i64 | .u64 => 18446744073709551615
def bitsFast (op : BinOp) (k : IntKind) (a b : Nat) : Option Nat :=
  match op with
  | .and => some (Nat.land a b)
  | .or => some (Nat.lor a b)
  | .xor => some (Nat.xor a b)
  | .andNot => some (Nat.land a (Nat.sub (fullN k) b))
  | _ => none
def bitsI (op : BinOp) (k : IntKind) (x y : Int) : Option Int :=
  match x with
  | .ofNat a => match y with
    | .ofNat b => match Nat.ble (Nat.lor a b) (maxN k) with
      | true => match bitsFast op k a b with
        | some r => some (.ofNat r)
        | none => none
      | false => bitsGen op k (.ofNat a) (.ofNat b)
    | .negSucc b => bitsGen op k (.ofNat a) (.negSucc b)
  | .negSucc a => bitsGen op k (.negSucc a) y

theorem maxN_eq (k : IntKind) : maxN k = 2 ^ mbits k - 1 := by
  cases k <;> rfl
theorem maxN_lt (k : IntKind) (m : Nat) : m ≤ maxN k ↔ m < 2 ^ mbits k := by
  rw [maxN_eq]
  have := Nat.two_pow_pos (mbits k)
  omega
theorem mbits_le (k : IntKind) : mbits k ≤ k.bits := by cases k <;> decide
theorem fullN_eq (k : IntKind) : fullN k = 2 ^ k.bits - 1 := by cases k <;> rfl

theorem bitsFast_eq (op : BinOp) (k : IntKind) (a b r : Nat) (h : Nat.lor a b ≤ maxN k) (hr : bitsFast op k a b = some r) :
    bitsGen op k (a : Int) (b : Int) = some (r : Int) := by
  have hab := (maxN_lt k _).1 h
  have ha : a < 2 ^ mbits k := Nat.lt_of_le_of_lt (Nat.left_le_or (n := a) (m := b)) hab
  have hb : b < 2 ^ mbits k := Nat.lt_of_le_of_lt (Nat.right_le_or (n := a) (m := b)) hab
  have hm := Nat.pow_le_pow_right (n := 2) (by omega) (mbits_le k)
  have ea : (BitVec.ofInt k.bits (a : Int)).toNat = a := by simp [BitVec.toNat_ofNat, Nat.mod_eq_of_lt (Nat.lt_of_lt_of_le ha hm)]
  have eb : (BitVec.ofInt k.bits (b : Int)).toNat = b := by simp [BitVec.toNat_ofNat, Nat.mod_eq_of_lt (Nat.lt_of_lt_of_le hb hm)]
  cases op <;> simp only [bitsFast, Option.some.injEq, reduceCtorEq] at hr <;> subst hr <;> simp only [bitsGen, Option.some.injEq]
  · rw [BitVec.toNat_and, ea, eb]
    exact wrap_in k _ ((maxN_lt k _).2 (Nat.and_lt_two_pow a hb))
  · rw [BitVec.toNat_or, ea, eb]
    exact wrap_in k _ h
  · rw [BitVec.toNat_xor, ea, eb]
    exact wrap_in k _ ((maxN_lt k _).2 (Nat.xor_lt_two_pow ha hb))
  · rw [BitVec.toNat_and, BitVec.toNat_not, ea, eb, ← fullN_eq]
    exact wrap_in k _ ((maxN_lt k _).2 (Nat.lt_of_le_of_lt Nat.and_le_left ha))

theorem bitsI_eq (op : BinOp) (k : IntKind) (x y r : Int) (h : bitsI op k x y = some r) : bitsGen op k x y = some r := by
  cases x with
  | ofNat a =>
    cases y with
    | ofNat b =>
      simp only [bitsI] at h
      cases hb : Nat.ble (Nat.lor a b) (maxN k) with
      | true =>
        rw [hb] at h
        cases hf : bitsFast op k a b with
        | none => rw [hf] at h; simp at h
        | some q =>
          rw [hf] at h
          simp only [Option.some.injEq] at h
          subst h
          exact bitsFast_eq op k a b q (Nat.le_of_ble_eq_true hb) hf
      | false => rw [hb] at h; exact h
    | negSucc b => exact h
  | negSucc a => exact h

theorem run_bits {P : Program} (w : World) (op : BinOp) (k : IntKind) (x y r : Int) (h : bitsI op k x y = some r) :
    (Op.intBits op k x y).run P w = .ok (.int k r) w := by
  have := bitsI_eq op k x y r h
  cases op <;> simp only [bitsGen, Option.some.injEq, reduceCtorEq] at this <;> subst this <;> simp [Op.intBits]

def arithI (op : BinOp) (k : IntKind) (x y : Int) : Option Int :=
  match op with
  | .add => some (wrapI k (Int.add x y))
  | .sub => some (wrapI k (Int.sub x y))
  | .mul => some (wrapI k (Int.mul x y))
  | _ => none
theorem run_arith {P : Program} (w : World) (op : BinOp) (k : IntKind) (x y r : Int) (h : arithI op k x y = some r) :
    (Op.intArith op k x y).run P w = .ok (.int k r) w := by
  cases op <;> simp only [arithI, Option.some.injEq, reduceCtorEq] at h <;> subst h <;> simp only [Op.intArith, wrapI_eq, Sem.run_pure] <;> rfl

def divI (op : BinOp) (k : IntKind) (x y : Int) : Option Int :=
  match y with
  | .ofNat 0 => none
  | .ofNat (b + 1) => match x with
    | .ofNat a => match op with
      | .quo => some (wrapI k (.ofNat (Nat.div a (b + 1))))
      | .rem => some (.ofNat (Nat.mod a (b + 1)))
      | _ => none
    | .negSucc a => match op with
      | .quo => some (k.wrap ((Int.negSucc a).tdiv (.ofNat (b + 1))))
      | .rem => some ((Int.negSucc a).tmod (.ofNat (b + 1)))
      | _ => none
  | .negSucc b => match op with
      | .quo => some (k.wrap (x.tdiv (.negSucc b)))
      | .rem => some (x.tmod (.negSucc b))
      | _ => none
theorem run_div {P : Program} (w : World) (op : BinOp) (k : IntKind) (x y r : Int) (h : divI op k x y = some r) :
    (Op.intDiv op k x y).run P w = .ok (.int k r) w := by
  cases y with
  | ofNat b =>
    cases b with
    | zero => simp [divI] at h
    | succ b =>
      have hne : (Int.ofNat (b + 1)) ≠ 0 := by simp only [Int.ofNat_eq_natCast]; omega
      cases x with
      | ofNat a =>
        cases op <;> simp only [divI, Option.some.injEq, reduceCtorEq] at h <;> subst h <;> simp only [Op.intDiv, if_neg hne, wrapI_eq, Sem.run_pure] <;> rfl
      | negSucc a =>
        cases op <;> simp only [divI, Option.some.injEq, reduceCtorEq] at h <;> subst h <;> simp only [Op.intDiv, if_neg hne, Sem.run_pure]
  | negSucc b =>
    have hne : (Int.negSucc b) ≠ 0 := by omega
    cases op <;> simp only [divI, Option.some.injEq, reduceCtorEq] at h <;> subst h <;> simp only [Op.intDiv, if_neg hne, Sem.run_pure]

def cmpI (op : BinOp) (x y : Int) : Option Bool :=
  match op with
  | .eql => some (eqI x y)
  | .neq => some (not (eqI x y))
  | .lss => some (ltI x y)
  | .leq => some (not (ltI y x))
  | .gtr => some (ltI y x)
  | .geq => some (not (ltI x y))
  | _ => none
theorem le_not_lt (x y : Int) : decide (x ≤ y) = !decide (y < x) := by
  rw [Bool.eq_iff_iff]; simp
theorem run_cmp {P : Program} (w : World) (op : BinOp) (x y : Int) (r : Bool) (h : cmpI op x y = some r) :
    (Op.intCmp op x y).run P w = .ok (.bool r) w := by
  cases op <;> simp only [cmpI, Option.some.injEq, reduceCtorEq] at h <;> subst h <;> simp [Op.intCmp, eqI_eq, ltI_eq, bne]
  · exact le_not_lt x y
  · exact le_not_lt y x

def minN (a b : Nat) : Nat := match Nat.ble a b with | true => a | false => b
def bitsN : IntKind → Nat
  | .i8 | .u8 => 8 | .i16 | .u16 => 16 | .i32 | .u32 => 32 | .i64 | .u64 => 64
theorem bitsN_eq (k : IntKind) : bitsN k = k.bits := by cases k <;> rfl
theorem minN_eq (a b : Nat) : minN a b = min a b := by
  unfold minN
  rw [ble_eq]
  by_cases h : a ≤ b
  · simp [h]
  · simp [h]; omega

def shiftI (op : BinOp) (k : IntKind) (x y : Int) : Option Int :=
  match y with
  | .negSucc _ => none
  | .ofNat b => match x with
    | .ofNat a => match op with
      | .shl => some (wrapI k (.ofNat (Nat.shiftLeft a (minN b (bitsN k)))))
      | .shr => some (.ofNat (Nat.shiftRight a (minN b (bitsN k))))
      | _ => none
    | .negSucc a => match op with
      | .shl => some (k.wrap (.negSucc a * 2 ^ (min b k.bits)))
      | .shr => some ((Int.negSucc a).fdiv (2 ^ (min b k.bits)))
      | _ => none
theorem run_shift {P : Program} (w : World) (op : BinOp) (k yk : IntKind) (x y r : Int) (h : shiftI op k x y = some r) :
    (Op.shift op k x yk y).run P w = .ok (.int k r) w := by
  cases y with
  | negSucc b => simp [shiftI] at h
  | ofNat b =>
    have hn : ¬ (Int.ofNat b) < 0 := by simp only [Int.ofNat_eq_natCast]; omega
    have ht : (Int.ofNat b).toNat = b := rfl
    cases x with
    | ofNat a =>
      cases op <;> simp only [shiftI, Option.some.injEq, reduceCtorEq] at h <;> subst h <;> simp only [Op.shift, if_neg hn, wrapI_eq, Sem.run_pure, ht, minN_eq, bitsN_eq]
      · have e : (Int.ofNat a * 2 ^ min b k.bits) = Int.ofNat (a.shiftLeft (min b k.bits)) := by
          show _ = ((a <<< (min b k.bits) : Nat) : Int)
          rw [Nat.shiftLeft_eq]; simp
        rw [e]
      · have e : (Int.ofNat a).fdiv (2 ^ min b k.bits) = Int.ofNat (a.shiftRight (min b k.bits)) := by
          show _ = ((a >>> (min b k.bits) : Nat) : Int)
          rw [Nat.shiftRight_eq_div_pow]
          have : (2 : Int) ^ min b k.bits = ((2 ^ min b k.bits : Nat) : Int) := by simp
          rw [this, Int.fdiv_eq_ediv_of_nonneg _ (Int.natCast_nonneg _)]
          rfl
        rw [e]
    | negSucc a =>
      cases op <;> simp only [shiftI, Option.some.injEq, reduceCtorEq] at h <;> subst h <;> simp only [Op.shift, if_neg hn, Sem.run_pure, ht]

/-! ### two numbers -/
def intI (op : BinOp) (k : IntKind) (x : Int) (k' : IntKind) (y : Int) : Option AV :=
  match op with
  | .shl | .shr => match shiftI op k x y with
    | some r => some (.int k r)
    | none => none
  | .add | .sub | .mul => match decide (k = k') with
    | true => match arithI op k x y with
      | some r => some (.int k r)
      | none => none
    | false => none
  | .quo | .rem => match decide (k = k') with
    | true => match divI op k x y with
      | some r => some (.int k r)
      | none => none
    | false => none
  | .and | .or | .xor | .andNot => match decide (k = k') with
    | true => match bitsI op k x y with
      | some r => some (.int k r)
      | none => none
    | false => none
  | _ => match decide (k = k') with
    | true => match cmpI op x y with
      | some r => some (.bool r)
      | none => none
    | false => none

theorem run_intI {P : Program} (ρ : Ren) (w : World) (op : BinOp) (t : TypeId) (k k' : IntKind) (x y : Int) (r : AV) (h : intI op k x k' y = some r) :
    (binOp op t (.int k x) (.int k' y)).run P w = .ok (toV ρ r) w ∧ okv ρ.d r := by
  cases op <;> simp only [intI] at h
  case shl | shr =>
    split at h
    · rename_i q hq; simp only [Option.some.injEq] at h; subst h
      exact ⟨by simpa only [binOp, toV] using run_shift w _ k k' x y q hq, trivial⟩
    · simp at h
  all_goals
    split at h
    · rename_i hk
      have hk := of_decide_eq_true hk
      subst hk
      split at h
      · rename_i q hq; simp only [Option.some.injEq] at h; subst h
        first
          | exact ⟨by simpa only [binOp, toV, ne_eq, not_true_eq_false, if_false] using run_arith w _ k x y q hq, trivial⟩
          | exact ⟨by simpa only [binOp, toV, ne_eq, not_true_eq_false, if_false] using run_div w _ k x y q hq, trivial⟩
          | exact ⟨by simpa only [binOp, toV, ne_eq, not_true_eq_false, if_false] using run_bits w _ k x y q hq, trivial⟩
          | exact ⟨by simpa only [binOp, toV, ne_eq, not_true_eq_false, if_false] using run_cmp w _ x y q hq, trivial⟩
      · simp at h
    · simp at h

/-! ### strings -/
def strI (op : BinOp) (la na lb nb : Nat) : Option AV :=
  match op with
  | .add => match Nat.ble (Nat.add la lb) 4611686018427387904 with
    | true => some (.str (Nat.add la lb) (catStr la na nb))
    | false => none
  | .eql => some (.bool (and (Nat.beq la lb) (Nat.beq na nb)))
  | .neq => some (.bool (not (and (Nat.beq la lb) (Nat.beq na nb))))
  | .lss => some (.bool (Op.bytesLess (bytesOf la na) (bytesOf lb nb)))
  | .geq => some (.bool (not (Op.bytesLess (bytesOf la na) (bytesOf lb nb))))
  | .leq => some (.bool (or (Op.bytesLess (bytesOf la na) (bytesOf lb nb)) (and (Nat.beq la lb) (Nat.beq na nb))))
  | .gtr => some (.bool (not (or (Op.bytesLess (bytesOf la na) (bytesOf lb nb)) (and (Nat.beq la lb) (Nat.beq na nb)))))
  | _ => none

theorem strOf_toList (l n : Nat) : (strOf l n).toList = bytesOf l n := by
  rw [Go.ByteArray.toList_eq]; rfl
theorem str_eq {la na lb nb : Nat} (ha : na < 2 ^ (8 * la)) (hb : nb < 2 ^ (8 * lb)) :
    (bytesOf la na == bytesOf lb nb) = (Nat.beq la lb && Nat.beq na nb) := by
  rw [Bool.eq_iff_iff, beq_iff_eq, Bool.and_eq_true, Nat.beq_eq, Nat.beq_eq]
  constructor
  · intro h
    have hl := congrArg List.length h
    rw [bytesOf_length, bytesOf_length] at hl
    subst hl
    exact ⟨rfl, bytesOf_inj la na nb ha hb h⟩
  · rintro ⟨rfl, rfl⟩; rfl
theorem strOf_append (a b n m : Nat) (h : n < 2 ^ (8 * a)) : strOf a n ++ strOf b m = strOf (a + b) (catStr a n m) := by
  apply ByteArray.ext
  simp [strOf, bytesOf_cat a b n m h]

theorem run_strI {P : Program} (ρ : Ren) (w : World) (op : BinOp) (t : TypeId) (la na lb nb : Nat) (r : AV) (ha : na < 2 ^ (8 * la)) (hb : nb < 2 ^ (8 * lb))
    (h : strI op la na lb nb = some r) : (binOp op t (.string (strOf la na)) (.string (strOf lb nb))).run P w = .ok (toV ρ r) w ∧ okv ρ.d r := by
  have he := str_eq ha hb
  cases op <;> simp only [strI] at h
  case add =>
    split at h
    · rename_i hl
      have hl := Nat.le_of_ble_eq_true hl
      simp only [Option.some.injEq] at h; subst h
      refine ⟨?_, catStr_lt la lb na nb ha hb⟩
      have hm : ¬ (((la + lb : Nat) : Int) > IntKind.i64.max) := by
        have hm : IntKind.i64.max = 9223372036854775807 := rfl
        rw [hm]
        have : la + lb ≤ 4611686018427387904 := hl
        omega
      simp only [binOp, Op.stringOp, strOf_size]
      rw [if_neg hm, strOf_append la lb na nb ha]
      rfl
    · simp at h
  all_goals
    simp only [Option.some.injEq, reduceCtorEq] at h
    try subst h
    try (refine ⟨?_, trivial⟩; simp only [binOp, Op.stringOp, strOf_toList, he, toV]; first | rfl | (rw [Bool.or_comm]; rfl))

end Go.Vai
