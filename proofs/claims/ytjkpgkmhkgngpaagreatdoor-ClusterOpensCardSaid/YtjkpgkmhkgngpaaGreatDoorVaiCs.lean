/- Sums of unknown numbers: reckoned with and compared, as the model does it with what they stand for. -/
import Derived.Test.YtjkpgkmhkgngpaaGreatDoorVaiC
namespace Go.Vai
open Go.RowKit

def insL (x : LV) : List LV → List LV
  | [] => match eqI x.a 0 with
    | true => []
    | false => [x]
  | y :: l => match and (Nat.beq x.j y.j) (and (eqI x.lo y.lo) (Nat.beq x.w y.w)) with
    | true => match eqI (Int.add x.a y.a) 0 with
      | true => l
      | false => ⟨x.j, Int.add x.a y.a, x.lo, x.w⟩ :: l
    | false => y :: insL x l
def addL : List LV → List LV → List LV
  | [], m => m
  | x :: l, m => insL x (addL l m)
def mulL (q : Int) : List LV → List LV
  | [] => []
  | x :: l => ⟨x.j, Int.mul q x.a, x.lo, x.w⟩ :: mulL q l

theorem linV_ins (s : Nat → Int) (c : Int) (x : LV) : ∀ l : List LV, linV s c (insL x l) = x.val s + linV s c l
  | [] => by
    simp only [insL]
    split
    · rename_i e
      simp only [eqI_eq, beq_iff_eq] at e
      simp [linV, LV.val, e]
    · rfl
  | y :: l => by
    simp only [insL]
    split
    · rename_i e
      simp only [Bool.and_eq_true, Nat.beq_eq, eqI_eq, beq_iff_eq] at e
      obtain ⟨e1, e2, e3⟩ := e
      have hv : x.val s + y.val s = (x.a + y.a) * clampI x.lo x.w (s x.j) := by
        simp only [LV.val, e1, e2, e3, Int.add_mul]
      split
      · rename_i z
        simp only [eqI_eq, beq_iff_eq] at z
        have z : x.a + y.a = 0 := z
        rw [z, Int.zero_mul] at hv
        simp only [linV]
        omega
      · have : (LV.mk x.j (Int.add x.a y.a) x.lo x.w).val s = (x.a + y.a) * clampI x.lo x.w (s x.j) := rfl
        simp only [linV, this]
        omega
    · simp only [linV, linV_ins s c x l]
      omega
theorem linV_shift (s : Nat → Int) (c d : Int) : ∀ l : List LV, linV s (c + d) l = c + linV s d l
  | [] => rfl
  | x :: l => by simp only [linV, linV_shift s c d l]; omega
theorem linV_add (s : Nat → Int) (c d : Int) : ∀ l m : List LV, linV s (Int.add c d) (addL l m) = linV s c l + linV s d m
  | [], m => linV_shift s c d m
  | x :: l, m => by simp only [addL, linV_ins, linV, linV_add s c d l m]; omega
theorem linV_mul (s : Nat → Int) (q c : Int) : ∀ l : List LV, linV s (Int.mul q c) (mulL q l) = q * linV s c l
  | [] => rfl
  | x :: l => by
    simp only [mulL, linV, linV_mul s q c l, LV.val, Int.mul_add]
    congr 1
    show q * x.a * _ = _
    rw [Int.mul_assoc]

/-! ### a sum by a number: what divides, and what is left -/
def divsI (m : Nat) (a : Int) : Bool := match a with
  | .ofNat n => Nat.beq (Nat.mod n m) 0
  | .negSucc n => Nat.beq (Nat.mod (Nat.succ n) m) 0
def quoI (m : Nat) (a : Int) : Int := match a with
  | .ofNat n => .ofNat (Nat.div n m)
  | .negSucc n => Int.neg (.ofNat (Nat.div (Nat.succ n) m))
theorem divsI_spec {m : Nat} {a : Int} (h : divsI m a = true) : a = m * quoI m a := by
  cases a with
  | ofNat n =>
    simp only [divsI, Nat.beq_eq] at h
    have h : n % m = 0 := h
    show (n : Int) = m * ((n / m : Nat) : Int)
    rw [← Int.natCast_mul, Nat.mul_div_cancel' (Nat.dvd_of_mod_eq_zero h)]
  | negSucc n =>
    simp only [divsI, Nat.beq_eq] at h
    have h : (n + 1) % m = 0 := h
    show Int.negSucc n = m * (-(((n + 1) / m : Nat) : Int))
    rw [Int.mul_neg, ← Int.natCast_mul, Nat.mul_div_cancel' (Nat.dvd_of_mod_eq_zero h)]
    rfl
def quoL (m : Nat) : List LV → List LV
  | [] => []
  | x :: l => match divsI m x.a with
    | true => ⟨x.j, quoI m x.a, x.lo, x.w⟩ :: quoL m l
    | false => quoL m l
def remL (m : Nat) : List LV → List LV
  | [] => []
  | x :: l => match divsI m x.a with
    | true => remL m l
    | false => x :: remL m l
theorem linV_quoRem (s : Nat → Int) (m : Nat) (q r : Int) : ∀ l : List LV, linV s (m * q + r) l = m * linV s q (quoL m l) + linV s r (remL m l)
  | [] => rfl
  | x :: l => by
    simp only [quoL, remL]
    cases h : divsI m x.a with
    | true =>
      simp only [linV, linV_quoRem s m q r l]
      have : x.val s = m * (LV.mk x.j (quoI m x.a) x.lo x.w).val s := by
        simp only [LV.val]
        rw [← Int.mul_assoc, ← divsI_spec h]
      rw [this, Int.mul_add]
      omega
    | false =>
      simp only [linV, linV_quoRem s m q r l]
      omega
structure QR where
  q : Int
  r : Int
  ql : List LV
  rl : List LV
/-- the number, of at least nought, taken apart -/
def qr (m : Nat) (c : Int) (l : List LV) : Option QR := match c with
  | .negSucc _ => none
  | .ofNat n => match and (not (ltI (linMn (.ofNat (Nat.div n m)) (quoL m l)) 0)) (and (not (ltI (linMn (.ofNat (Nat.mod n m)) (remL m l)) 0)) (ltI (linMx (.ofNat (Nat.mod n m)) (remL m l)) (.ofNat m))) with
    | true => some ⟨.ofNat (Nat.div n m), .ofNat (Nat.mod n m), quoL m l, remL m l⟩
    | false => none
theorem qr_spec {m : Nat} {c : Int} {l : List LV} {x : QR} (h : qr m c l = some x) (s : Nat → Int) :
    linV s c l = m * linV s x.q x.ql + linV s x.r x.rl ∧ 0 ≤ linV s x.q x.ql ∧ 0 ≤ linV s x.r x.rl ∧ linV s x.r x.rl < m ∧
      0 ≤ linMn x.q x.ql ∧ 0 ≤ linMn x.r x.rl ∧ linMx x.r x.rl < m := by
  unfold qr at h
  split at h
  · simp at h
  · rename_i n
    split at h
    · rename_i e
      simp only [Option.some.injEq] at h; subst h
      simp only [Bool.and_eq_true, Bool.not_eq_true', ltI_eq, decide_eq_false_iff_not, decide_eq_true_eq] at e
      obtain ⟨e1, e2, e3⟩ := e
      have a1 := lin_rng s (.ofNat (Nat.div n m)) (quoL m l)
      have a2 := lin_rng s (.ofNat (Nat.mod n m)) (remL m l)
      have e3 : linMx (.ofNat (Nat.mod n m)) (remL m l) < (m : Int) := e3
      dsimp only
      refine ⟨?_, by omega, by omega, by omega, by omega, by omega, e3⟩
      have : (Int.ofNat n) = m * (Int.ofNat (Nat.div n m)) + Int.ofNat (Nat.mod n m) := by
        show (n : Int) = m * ((n / m : Nat) : Int) + ((n % m : Nat) : Int)
        rw [← Int.natCast_mul, ← Int.natCast_add, Nat.div_add_mod]
      conv => lhs; rw [this]
      exact linV_quoRem s m _ _ l
    · simp at h

/-! ### operations -/
def minZ : IntKind → Int
  | .i8 => -128 | .i16 => -32768 | .i32 => -2147483648 | .i64 => -9223372036854775808
  | _ => 0
theorem wrap_rng (k : IntKind) (n : Int) (h : minZ k ≤ n) (h' : n ≤ Int.ofNat (maxN k)) : k.wrap n = n := by
  cases k <;> simp [IntKind.wrap, IntKind.bits, IntKind.signed, maxN, minZ] at * <;> omega
/-- a number that is as it is in its kind -/
def mkLin (k : IntKind) (c : Int) (l : List LV) : Option AV := match l with
  | [] => match and (not (ltI c (minZ k))) (not (ltI (.ofNat (maxN k)) c)) with
    | true => some (.int k c)
    | false => none
  | x :: r => match and (not (ltI (linMn c (x :: r)) (minZ k))) (not (ltI (.ofNat (maxN k)) (linMx c (x :: r)))) with
    | true => some (.lint k c (x :: r))
    | false => none
theorem mkLin_spec {k : IntKind} {c : Int} {l : List LV} {v : AV} (h : mkLin k c l = some v) (ρ : Ren) :
    toV ρ v = .int k (linV ρ.s c l) ∧ k.wrap (linV ρ.s c l) = linV ρ.s c l ∧ ∀ d, okv d v := by
  unfold mkLin at h
  split at h
  · split at h
    · rename_i e
      simp only [Option.some.injEq] at h; subst h
      simp only [Bool.and_eq_true, Bool.not_eq_true', ltI_eq, decide_eq_false_iff_not] at e
      exact ⟨rfl, wrap_rng k _ (by simp only [linV]; omega) (by simp only [linV]; omega), fun _ => trivial⟩
    · simp at h
  · rename_i x r
    split at h
    · rename_i e
      simp only [Option.some.injEq] at h; subst h
      simp only [Bool.and_eq_true, Bool.not_eq_true', ltI_eq, decide_eq_false_iff_not] at e
      have a := lin_rng ρ.s c (x :: r)
      exact ⟨rfl, wrap_rng k _ (by omega) (by omega), fun _ => trivial⟩
    · simp at h

theorem mkLin_rng {k : IntKind} {c : Int} {l : List LV} {v : AV} (h : mkLin k c l = some v) (ρ : Ren) : linV ρ.s c l ≤ (maxN k : Int) := by
  unfold mkLin at h
  split at h
  · split at h
    · rename_i e
      simp only [Bool.and_eq_true, Bool.not_eq_true', ltI_eq, decide_eq_false_iff_not] at e
      have := e.2
      show c ≤ _
      have e2 : ¬ ((maxN k : Int) < c) := this
      omega
    · simp at h
  · rename_i x r
    split at h
    · rename_i e
      simp only [Bool.and_eq_true, Bool.not_eq_true', ltI_eq, decide_eq_false_iff_not] at e
      have a := lin_rng ρ.s c (x :: r)
      have e2 : ¬ ((maxN k : Int) < linMx c (x :: r)) := e.2
      omega
    · simp at h

def cmpD (op : BinOp) (lo hi : Int) : Option Bool := match op with
  | .lss => match ltI hi 0 with
    | true => some true
    | false => match ltI lo 0 with
      | false => some false
      | true => none
  | .leq => match ltI 0 hi with
    | false => some true
    | true => match ltI 0 lo with
      | true => some false
      | false => none
  | .gtr => match ltI 0 lo with
    | true => some true
    | false => match ltI 0 hi with
      | false => some false
      | true => none
  | .geq => match ltI lo 0 with
    | false => some true
    | true => match ltI hi 0 with
      | true => some false
      | false => none
  | .eql => match or (ltI hi 0) (ltI 0 lo) with
    | true => some false
    | false => match and (eqI lo 0) (eqI hi 0) with
      | true => some true
      | false => none
  | .neq => match or (ltI hi 0) (ltI 0 lo) with
    | true => some true
    | false => match and (eqI lo 0) (eqI hi 0) with
      | true => some false
      | false => none
  | _ => none
theorem cmpD_spec {op : BinOp} {lo hi x y : Int} {b : Bool} (h : cmpD op lo hi = some b) (h1 : lo ≤ x - y) (h2 : x - y ≤ hi) : cmpI op x y = some b := by
  cases op <;> simp only [cmpD, reduceCtorEq] at h <;> simp only [cmpI, ltI_eq, eqI_eq, Option.some.injEq] at h ⊢
  all_goals
    repeat' (split at h)
  all_goals
    cases h
  all_goals
    simp only [decide_eq_true_eq, decide_eq_false_iff_not, Bool.or_eq_true, Bool.or_eq_false_iff, Bool.and_eq_true, beq_iff_eq, Bool.not_eq_true', Bool.not_eq_false', beq_eq_false_iff_ne, ne_eq] at *
    omega

/-- is the number one of 2, 4, 8 .. less one? that power -/
def maskOf1 (m : Nat) : Option Nat := match Nat.beq (Nat.land m (Nat.succ m)) 0 with
  | true => some (Nat.succ m)
  | false => none

def linI (op : BinOp) (k : IntKind) (c : Int) (l : List LV) (k' : IntKind) (c' : Int) (l' : List LV) : Option AV := match decide (k = k') with
  | false => match op with
    | .shl => match l' with
      | [] => match c' with
        | .ofNat n => match Nat.blt n (bitsN k) with
          | true => mkLin k (Int.mul (.ofNat (Nat.pow 2 n)) c) (mulL (.ofNat (Nat.pow 2 n)) l)
          | false => none
        | _ => none
      | _ => none
    | .shr => match l' with
      | [] => match c' with
        | .ofNat n => match Nat.blt n (bitsN k) with
          | true => match qr (Nat.pow 2 n) c l with
            | some x => mkLin k x.q x.ql
            | none => none
          | false => none
        | _ => none
      | _ => none
    | _ => none
  | true => match op with
    | .add => mkLin k (Int.add c c') (addL l l')
    | .sub => mkLin k (Int.add c (Int.mul (-1) c')) (addL l (mulL (-1) l'))
    | .mul => match l' with
      | [] => mkLin k (Int.mul c' c) (mulL c' l)
      | _ => match l with
        | [] => mkLin k (Int.mul c c') (mulL c l')
        | _ => none
    | .quo => match l' with
      | [] => match c' with
        | .ofNat n => match qr n c l with
          | some x => mkLin k x.q x.ql
          | none => none
        | _ => none
      | _ => none
    | .rem => match l' with
      | [] => match c' with
        | .ofNat n => match qr n c l with
          | some x => mkLin k x.r x.rl
          | none => none
        | _ => none
      | _ => none
    | .shl => match l' with
      | [] => match c' with
        | .ofNat n => match Nat.blt n (bitsN k) with
          | true => mkLin k (Int.mul (.ofNat (Nat.pow 2 n)) c) (mulL (.ofNat (Nat.pow 2 n)) l)
          | false => none
        | _ => none
      | _ => none
    | .shr => match l' with
      | [] => match c' with
        | .ofNat n => match Nat.blt n (bitsN k) with
          | true => match qr (Nat.pow 2 n) c l with
            | some x => mkLin k x.q x.ql
            | none => none
          | false => none
        | _ => none
      | _ => none
    | .or => match qr 256 c l with
      | some x => match x.rl with
        | [] => match and (eqI x.r 0) (and (not (ltI (linMn c' l') 0)) (ltI (linMx c' l') 256)) with
          | true => mkLin k (Int.add c c') (addL l l')
          | false => none
        | _ => none
      | none => none
    | op => match cmpD op (linMn (Int.add c (Int.mul (-1) c')) (addL l (mulL (-1) l'))) (linMx (Int.add c (Int.mul (-1) c')) (addL l (mulL (-1) l'))) with
      | some b => some (.bool b)
      | none => none

theorem linV_nil (s : Nat → Int) (c : Int) : linV s c [] = c := rfl
theorem linV_sub (s : Nat → Int) (c c' : Int) (l l' : List LV) : linV s (Int.add c (Int.mul (-1) c')) (addL l (mulL (-1) l')) = linV s c l - linV s c' l' := by
  rw [linV_add, linV_mul]; omega

theorem qr_div {n : Nat} {c : Int} {l : List LV} {x : QR} (h : qr n c l = some x) (s : Nat → Int) :
    ∃ a : Nat, linV s c l = .ofNat a ∧ 0 < n ∧ linV s x.q x.ql = .ofNat (a / n) ∧ linV s x.r x.rl = .ofNat (a % n) := by
  obtain ⟨h1, h2, h3, h4, _⟩ := qr_spec h s
  obtain ⟨q, hq⟩ := Int.eq_ofNat_of_zero_le h2
  obtain ⟨r, hr⟩ := Int.eq_ofNat_of_zero_le h3
  rw [hq, hr] at h1
  rw [hr] at h4
  have hr' : r < n := by omega
  refine ⟨n * q + r, ?_, by omega, ?_, ?_⟩
  · rw [h1]; simp
  · rw [hq, Nat.mul_add_div (by omega), Nat.div_eq_of_lt hr']; rfl
  · rw [hr, Nat.mul_add_mod, Nat.mod_eq_of_lt hr']; rfl

theorem shl_lin {k k' : IntKind} {c : Int} {l : List LV} {n : Nat} {r : AV} (ρ : Ren) (hn : Nat.blt n (bitsN k) = true)
    (h : mkLin k (Int.mul (.ofNat (Nat.pow 2 n)) c) (mulL (.ofNat (Nat.pow 2 n)) l) = some r) :
    (∃ r0, intI .shl k (linV ρ.s c l) k' (.ofNat n) = some r0 ∧ toV ρ r0 = toV ρ r) ∧ ∀ d, okv d r := by
  obtain ⟨h1, h2, h3⟩ := mkLin_spec h ρ
  rw [linV_mul] at h1 h2
  refine ⟨?_, h3⟩
  have hm : minN n (bitsN k) = n := by
    rw [blt_eq] at hn
    have := of_decide_eq_true hn
    rw [minN_eq]; omega
  have hb : min n k.bits = n := by rw [← bitsN_eq, ← minN_eq]; exact hm
  have e : ∀ a : Int, (Int.ofNat (Nat.pow 2 n)) * a = a * 2 ^ n := by
    intro a; rw [Int.mul_comm]; congr 1
  rw [e] at h1 h2
  cases hx : linV ρ.s c l with
  | ofNat a =>
    rw [hx] at h1 h2
    refine ⟨.int k (wrapI k (.ofNat (Nat.shiftLeft a n))), by simp only [intI, shiftI, hm], ?_⟩
    rw [h1, wrapI_eq]
    have : (Int.ofNat (a.shiftLeft n)) = Int.ofNat a * 2 ^ n := by
      show ((a <<< n : Nat) : Int) = _
      rw [Nat.shiftLeft_eq]; simp
    simp only [toV, this, h2]
  | negSucc a =>
    rw [hx] at h1 h2
    refine ⟨_, by simp only [intI, shiftI, hb]; rfl, ?_⟩
    rw [h1]; simp only [toV, h2]
theorem shr_lin {k k' : IntKind} {c : Int} {l : List LV} {n : Nat} {x : QR} {r : AV} (ρ : Ren) (hn : Nat.blt n (bitsN k) = true)
    (hq : qr (Nat.pow 2 n) c l = some x) (h : mkLin k x.q x.ql = some r) :
    (∃ r0, intI .shr k (linV ρ.s c l) k' (.ofNat n) = some r0 ∧ toV ρ r0 = toV ρ r) ∧ ∀ d, okv d r := by
  obtain ⟨h1, h2, h3⟩ := mkLin_spec h ρ
  obtain ⟨a, ha, _, q1, _⟩ := qr_div hq ρ.s
  refine ⟨?_, h3⟩
  have hm : minN n (bitsN k) = n := by
    rw [blt_eq] at hn
    have := of_decide_eq_true hn
    rw [minN_eq]; omega
  refine ⟨.int k (.ofNat (Nat.shiftRight a n)), by rw [ha]; simp only [intI, shiftI, hm], ?_⟩
  rw [h1, q1]
  show Value.int k ((a >>> n : Nat) : Int) = Value.int k ((a / 2 ^ n : Nat) : Int)
  rw [Nat.shiftRight_eq_div_pow]

theorem linI_spec {op : BinOp} {k k' : IntKind} {c c' : Int} {l l' : List LV} {r : AV} (h : linI op k c l k' c' l' = some r) (ρ : Ren) :
    (∃ r0, intI op k (linV ρ.s c l) k' (linV ρ.s c' l') = some r0 ∧ toV ρ r0 = toV ρ r) ∧ ∀ d, okv d r := by
  unfold linI at h
  split at h
  · -- kinds that differ: shifts alone
    split at h
    · split at h <;> try (simp at h; done)
      split at h <;> try (simp at h; done)
      split at h <;> try (simp at h; done)
      rename_i n hn
      exact shl_lin ρ hn h
    · split at h <;> try (simp at h; done)
      split at h <;> try (simp at h; done)
      split at h <;> try (simp at h; done)
      rename_i n hn
      split at h <;> try (simp at h; done)
      rename_i x hq
      exact shr_lin ρ hn hq h
    · simp at h
  · rename_i hk
    have hk' := of_decide_eq_true hk
    subst hk'
    split at h
    · obtain ⟨h1, h2, h3⟩ := mkLin_spec h ρ
      rw [linV_add] at h1 h2
      exact ⟨⟨_, by simp only [intI, decide_true, arithI]; rfl, by rw [h1, wrapI_eq]; simp only [toV]; exact congrArg _ h2⟩, h3⟩
    · obtain ⟨h1, h2, h3⟩ := mkLin_spec h ρ
      rw [linV_sub] at h1 h2
      exact ⟨⟨_, by simp only [intI, decide_true, arithI]; rfl, by rw [h1, wrapI_eq]; simp only [toV]; exact congrArg _ h2⟩, h3⟩
    · split at h
      · obtain ⟨h1, h2, h3⟩ := mkLin_spec h ρ
        rw [linV_mul, Int.mul_comm] at h1 h2
        exact ⟨⟨_, by simp only [intI, decide_true, arithI, linV_nil]; rfl, by rw [h1, wrapI_eq]; simp only [toV]; exact congrArg _ h2⟩, h3⟩
      · split at h
        · obtain ⟨h1, h2, h3⟩ := mkLin_spec h ρ
          rw [linV_mul] at h1 h2
          exact ⟨⟨_, by simp only [intI, decide_true, arithI, linV_nil]; rfl, by rw [h1, wrapI_eq]; simp only [toV]; exact congrArg _ h2⟩, h3⟩
        · simp at h
    · split at h <;> try (simp at h; done)
      split at h <;> try (simp at h; done)
      rename_i n
      split at h <;> try (simp at h; done)
      rename_i x hq
      obtain ⟨h1, h2, h3⟩ := mkLin_spec h ρ
      obtain ⟨a, ha, hn, q1, _⟩ := qr_div hq ρ.s
      refine ⟨?_, h3⟩
      cases n with
      | zero => omega
      | succ b =>
        rw [q1] at h1 h2
        exact ⟨.int k (wrapI k (.ofNat (Nat.div a (b + 1)))), by rw [ha, linV_nil]; simp only [intI, decide_true, divI], by rw [h1, wrapI_eq]; simp only [toV]; exact congrArg _ h2⟩
    · split at h <;> try (simp at h; done)
      split at h <;> try (simp at h; done)
      rename_i n
      split at h <;> try (simp at h; done)
      rename_i x hq
      obtain ⟨h1, h2, h3⟩ := mkLin_spec h ρ
      obtain ⟨a, ha, hn, _, q2⟩ := qr_div hq ρ.s
      refine ⟨?_, h3⟩
      cases n with
      | zero => omega
      | succ b =>
        rw [q2] at h1
        exact ⟨.int k (.ofNat (Nat.mod a (b + 1))), by rw [ha, linV_nil]; simp only [intI, decide_true, divI], by rw [h1]; rfl⟩
    · split at h <;> try (simp at h; done)
      split at h <;> try (simp at h; done)
      split at h <;> try (simp at h; done)
      rename_i n hn
      exact shl_lin ρ hn h
    · split at h <;> try (simp at h; done)
      split at h <;> try (simp at h; done)
      split at h <;> try (simp at h; done)
      rename_i n hn
      split at h <;> try (simp at h; done)
      rename_i x hq
      exact shr_lin ρ hn hq h
    · split at h <;> try (simp at h; done)
      rename_i x hq
      split at h <;> try (simp at h; done)
      rename_i hrl
      split at h <;> try (simp at h; done)
      rename_i e
      simp only [Bool.and_eq_true, Bool.not_eq_true', ltI_eq, eqI_eq, beq_iff_eq, decide_eq_false_iff_not, decide_eq_true_eq] at e
      obtain ⟨e1, e2, e3⟩ := e
      obtain ⟨h1, h2, h3⟩ := mkLin_spec h ρ
      have hrng := mkLin_rng h ρ
      rw [linV_add] at h1 hrng
      obtain ⟨a, ha, _, q1, q2⟩ := qr_div hq ρ.s
      have a' := lin_rng ρ.s c' l'
      obtain ⟨b, hb⟩ := Int.eq_ofNat_of_zero_le (show 0 ≤ linV ρ.s c' l' by omega)
      have hb8 : b < 256 := by omega
      rw [hrl, e1] at q2
      have q2 : (0 : Int) = ((a % 256 : Nat) : Int) := q2
      have hor : Nat.lor a b = a + b := by
        have e : a = 2 ^ 8 * (a / 256) := by omega
        have := Nat.two_pow_add_eq_or_of_lt (i := 8) (b := b) (by simpa using hb8) (a / 256)
        rw [← e] at this
        exact this.symm
      refine ⟨⟨.int k (.ofNat (Nat.lor a b)), ?_, ?_⟩, h3⟩
      · rw [ha, hb]
        have hle : Nat.ble (Nat.lor a b) (maxN k) = true := by
          rw [hor, Nat.ble_eq]
          rw [ha, hb] at hrng
          have hrng : ((a : Int) + (b : Int)) ≤ (maxN k : Int) := hrng
          omega
        show (match decide (k = k) with | true => (match bitsI .or k (.ofNat a) (.ofNat b) with | some r => some (AV.int k r) | none => none) | false => none) = _
        simp only [decide_true, bitsI, hle, bitsFast]
      · rw [h1, ha, hb, hor]; rfl
    · split at h
      · rename_i b hb
        simp only [Option.some.injEq] at h; subst h
        have a := lin_rng ρ.s (Int.add c (Int.mul (-1) c')) (addL l (mulL (-1) l'))
        rw [linV_sub] at a
        have hc := cmpD_spec hb a.1 a.2
        refine ⟨⟨.bool b, ?_, rfl⟩, fun _ => trivial⟩
        cases op <;> simp only [cmpI, reduceCtorEq] at hc <;> simp only [intI, decide_true, cmpI] <;> simp only [Option.some.injEq] at hc ⊢ <;> first | (rw [hc]; done) | (simp [hc])
      · simp at h

/-! ### texts of unknown bytes: the number that a text's bytes are, as a sum -/
def mkStr (len : Nat) (c : Int) (l : List LV) : Option AV := match and (not (ltI (linMn c l) 0)) (ltI (linMx c l) (.ofNat (Nat.pow 2 (Nat.mul 8 len)))) with
  | true => match l with
    | [] => match c with
      | .ofNat n => some (.str len n)
      | .negSucc _ => none
    | x :: r => some (.lstr len c (x :: r))
  | false => none
theorem mkStr_spec {len : Nat} {c : Int} {l : List LV} {v : AV} (h : mkStr len c l = some v) (ρ : Ren) :
    toV ρ v = .string (strOf len (linV ρ.s c l).toNat) ∧ ∀ d, okv d v := by
  unfold mkStr at h
  split at h
  · rename_i e
    simp only [Bool.and_eq_true, Bool.not_eq_true', ltI_eq, decide_eq_false_iff_not, decide_eq_true_eq] at e
    obtain ⟨e1, e2⟩ := e
    have e2 : linMx c l < ((2 ^ (8 * len) : Nat) : Int) := e2
    cases l with
    | nil =>
      cases c with
      | ofNat n =>
        simp only [Option.some.injEq] at h; subst h
        have e2 : ((n : Nat) : Int) < ((2 ^ (8 * len) : Nat) : Int) := e2
        exact ⟨rfl, fun d => show n < 2 ^ (8 * len) by omega⟩
      | negSucc n => simp at h
    | cons x r =>
      simp only [Option.some.injEq] at h; subst h
      exact ⟨rfl, fun d => ⟨by omega, by rw [Int.natCast_pow] at e2; exact e2⟩⟩
  · simp at h

/-- a text's length and sum -/
def strV (v : AV) : Option (Nat × Int × List LV) := match v with
  | .str len n => some (len, .ofNat n, [])
  | .lstr len c l => some (len, c, l)
  | _ => none
theorem strV_spec {v : AV} {len : Nat} {c : Int} {l : List LV} (h : strV v = some (len, c, l)) (ρ : Ren) {d : Nat → Prop} (hv : okv d v) :
    toV ρ v = .string (strOf len (linV ρ.s c l).toNat) ∧ ∃ n : Nat, linV ρ.s c l = .ofNat n ∧ n < 2 ^ (8 * len) := by
  cases v <;> simp only [strV, Option.some.injEq, Prod.mk.injEq, reduceCtorEq] at h
  · obtain ⟨rfl, rfl, rfl⟩ := h
    exact ⟨rfl, _, rfl, hv⟩
  · obtain ⟨rfl, rfl, rfl⟩ := h
    obtain ⟨h1, h2⟩ := hv
    rename_i len c l
    have a := lin_rng ρ.s c l
    obtain ⟨n, hn⟩ := Int.eq_ofNat_of_zero_le (show 0 ≤ linV ρ.s c l by omega)
    refine ⟨rfl, n, hn, ?_⟩
    have e : ((2 : Int) ^ (8 * len)) = ((2 ^ (8 * len) : Nat) : Int) := (Int.natCast_pow 2 (8 * len)).symm
    rw [e] at h2
    omega

/-- a byte of it -/
def byteL (c : Int) (l : List LV) (i : Nat) : Option (Int × List LV) := match qr (Nat.pow 2 (Nat.mul 8 i)) c l with
  | some x => match qr 256 x.q x.ql with
    | some y => some (y.r, y.rl)
    | none => none
  | none => none
theorem byteL_spec {c b : Int} {l m : List LV} {i : Nat} (h : byteL c l i = some (b, m)) (s : Nat → Int) : linV s b m = .ofNat (byteAt (linV s c l).toNat i) := by
  unfold byteL at h
  split at h
  · rename_i x hx
    split at h
    · rename_i y hy
      simp only [Option.some.injEq, Prod.mk.injEq] at h
      obtain ⟨rfl, rfl⟩ := h
      obtain ⟨a, h1, _, h2, _⟩ := qr_div hx s
      obtain ⟨a', h3, _, _, h4⟩ := qr_div hy s
      rw [h2] at h3
      have h3 : a / 2 ^ (8 * i) = a' := Int.ofNat.inj h3
      rw [h4, h1, ← h3]
      show Int.ofNat (a / 2 ^ (8 * i) % 256) = Int.ofNat ((a >>> (8 * i)) % 256)
      rw [Nat.shiftRight_eq_div_pow]
    · simp at h
  · simp at h
/-- a piece of it -/
def subL (c : Int) (l : List LV) (lo hi : Nat) : Option (Int × List LV) := match qr (Nat.pow 2 (Nat.mul 8 lo)) c l with
  | some x => match qr (Nat.pow 2 (Nat.mul 8 (Nat.sub hi lo))) x.q x.ql with
    | some y => some (y.r, y.rl)
    | none => none
  | none => none
theorem subL_spec {c b : Int} {l m : List LV} {lo hi : Nat} (h : subL c l lo hi = some (b, m)) (s : Nat → Int) : linV s b m = .ofNat (subStr (linV s c l).toNat lo hi) := by
  unfold subL at h
  split at h
  · rename_i x hx
    split at h
    · rename_i y hy
      simp only [Option.some.injEq, Prod.mk.injEq] at h
      obtain ⟨rfl, rfl⟩ := h
      obtain ⟨a, h1, _, h2, _⟩ := qr_div hx s
      obtain ⟨a', h3, _, _, h4⟩ := qr_div hy s
      rw [h2] at h3
      have h3 : a / 2 ^ (8 * lo) = a' := Int.ofNat.inj h3
      rw [h4, h1, ← h3]
      show Int.ofNat (a / 2 ^ (8 * lo) % 2 ^ (8 * (hi - lo))) = Int.ofNat ((a >>> (8 * lo)) % 2 ^ (8 * (hi - lo)))
      rw [Nat.shiftRight_eq_div_pow]
    · simp at h
  · simp at h

/-- does a byte of theirs, of the first 'n', differ for sure? -/
def diffB (c : Int) (l : List LV) (c' : Int) (l' : List LV) : Nat → Bool
  | 0 => false
  | n + 1 => match byteL c l n with
    | some (b, m) => match byteL c' l' n with
      | some (b', m') => match cmpD .eql (linMn (Int.add b (Int.mul (-1) b')) (addL m (mulL (-1) m'))) (linMx (Int.add b (Int.mul (-1) b')) (addL m (mulL (-1) m'))) with
        | some false => true
        | _ => diffB c l c' l' n
      | none => diffB c l c' l' n
    | none => diffB c l c' l' n
theorem diffB_spec {c c' : Int} {l l' : List LV} (s : Nat → Int) : ∀ n, diffB c l c' l' n = true → (linV s c l).toNat ≠ (linV s c' l').toNat
  | 0, h => by simp [diffB] at h
  | n + 1, h => by
    simp only [diffB] at h
    split at h
    · rename_i b m hb
      split at h
      · rename_i b' m' hb'
        split at h
        · rename_i hd
          have a := lin_rng s (Int.add b (Int.mul (-1) b')) (addL m (mulL (-1) m'))
          rw [linV_sub] at a
          have := cmpD_spec hd a.1 a.2
          intro e
          rw [byteL_spec hb s, byteL_spec hb' s, e] at this
          simp [cmpI, eqI_eq] at this
        · exact diffB_spec s n h
      · exact diffB_spec s n h
    · exact diffB_spec s n h

/-- are they the same? -/
def eqL (len : Nat) (c : Int) (l : List LV) (len' : Nat) (c' : Int) (l' : List LV) : Option Bool := match Nat.beq len len' with
  | false => some false
  | true => match cmpD .eql (linMn (Int.add c (Int.mul (-1) c')) (addL l (mulL (-1) l'))) (linMx (Int.add c (Int.mul (-1) c')) (addL l (mulL (-1) l'))) with
    | some b => some b
    | none => match diffB c l c' l' len with
      | true => some false
      | false => none
theorem eqL_spec {len len' : Nat} {c c' : Int} {l l' : List LV} {b : Bool} (h : eqL len c l len' c' l' = some b) (s : Nat → Int) {n n' : Nat} (hn : linV s c l = .ofNat n) (hn' : linV s c' l' = .ofNat n') :
    b = and (Nat.beq len len') (Nat.beq n n') := by
  unfold eqL at h
  split at h
  · rename_i e
    simp only [Option.some.injEq] at h; subst h
    rw [e]; rfl
  · rename_i e
    rw [e]
    split at h
    · rename_i b' hd
      simp only [Option.some.injEq] at h; subst h
      have a := lin_rng s (Int.add c (Int.mul (-1) c')) (addL l (mulL (-1) l'))
      rw [linV_sub] at a
      have := cmpD_spec hd a.1 a.2
      rw [hn, hn'] at this
      simpa [cmpI, eqI] using this.symm
    · split at h
      · rename_i hd
        simp only [Option.some.injEq] at h; subst h
        have := diffB_spec s _ hd
        rw [hn, hn'] at this
        have : n ≠ n' := this
        simp [beq_eq, this]
      · simp at h

def strL (op : BinOp) (la : Nat) (c : Int) (l : List LV) (lb : Nat) (c' : Int) (l' : List LV) : Option AV := match op with
  | .add => match Nat.ble (Nat.add la lb) 4611686018427387904 with
    | true => mkStr (Nat.add la lb) (Int.add c (Int.mul (.ofNat (Nat.pow 2 (Nat.mul 8 la))) c')) (addL l (mulL (.ofNat (Nat.pow 2 (Nat.mul 8 la))) l'))
    | false => none
  | .eql => match eqL la c l lb c' l' with
    | some b => some (.bool b)
    | none => none
  | .neq => match eqL la c l lb c' l' with
    | some b => some (.bool (not b))
    | none => none
  | _ => none
theorem strL_spec {op : BinOp} {la lb : Nat} {c c' : Int} {l l' : List LV} {r : AV} (h : strL op la c l lb c' l' = some r) (ρ : Ren) {n n' : Nat}
    (hn : linV ρ.s c l = .ofNat n) (hn' : linV ρ.s c' l' = .ofNat n') : (∃ r0, strI op la n lb n' = some r0 ∧ toV ρ r0 = toV ρ r) ∧ ∀ d, okv d r := by
  unfold strL at h
  split at h
  · split at h
    · rename_i e
      obtain ⟨h1, h2⟩ := mkStr_spec h ρ
      rw [linV_add, linV_mul, hn, hn'] at h1
      refine ⟨⟨.str (la + lb) (catStr la n n'), by simp only [strI, e]; rfl, ?_⟩, h2⟩
      rw [h1]
      have : (Int.ofNat n + Int.ofNat (Nat.pow 2 (Nat.mul 8 la)) * Int.ofNat n').toNat = catStr la n n' := by
        show ((n : Int) + ((2 ^ (8 * la) : Nat) : Int) * (n' : Int)).toNat = n + n' <<< (8 * la)
        rw [Nat.shiftLeft_eq, ← Int.natCast_mul, ← Int.natCast_add, Int.toNat_natCast, Nat.mul_comm]
      rw [this]; rfl
    · simp at h
  · split at h
    · rename_i b hb
      simp only [Option.some.injEq] at h; subst h
      exact ⟨⟨_, rfl, by rw [eqL_spec hb ρ.s hn hn']⟩, fun _ => trivial⟩
    · simp at h
  · split at h
    · rename_i b hb
      simp only [Option.some.injEq] at h; subst h
      exact ⟨⟨_, rfl, by rw [eqL_spec hb ρ.s hn hn']⟩, fun _ => trivial⟩
    · simp at h
  · simp at h

theorem shr8' (n i : Nat) : (n >>> (8 * i)) / 256 = n >>> (8 * (i + 1)) := by
  rw [show 8 * (i + 1) = 8 * i + 8 by omega, Nat.shiftRight_add, Nat.shiftRight_eq_div_pow (n >>> (8 * i))]
/-- the bytes of it, from the 'i'th on, as numbers -/
def bytesL (c : Int) (l : List LV) : Nat → Nat → Option (List AV)
  | 0, _ => some []
  | k + 1, i => match byteL c l i with
    | some (b, m) => match mkLin .u8 b m with
      | some v => match bytesL c l k (Nat.succ i) with
        | some r => some (v :: r)
        | none => none
      | none => none
    | none => none
theorem byteAt_shift (n i j : Nat) : byteAt (n >>> (8 * i)) j = byteAt n (i + j) := by
  show ((n >>> (8 * i)) >>> (8 * j)) % 256 = (n >>> (8 * (i + j))) % 256
  rw [← Nat.shiftRight_add, show 8 * i + 8 * j = 8 * (i + j) by omega]
theorem bytesL_spec {c : Int} {l : List LV} (ρ : Ren) : ∀ {k i : Nat} {r : List AV}, bytesL c l k i = some r →
    r.map (toV ρ) = (bytesOf k ((linV ρ.s c l).toNat >>> (8 * i))).map (fun b => Value.int .u8 (b.toNat : Int)) ∧ r.length = k ∧ ∀ d, okvs d r
  | 0, i, r, h => by
    simp only [bytesL, Option.some.injEq] at h; subst h
    exact ⟨rfl, rfl, fun _ => trivial⟩
  | k + 1, i, r, h => by
    simp only [bytesL] at h
    split at h <;> try (simp at h; done)
    rename_i b m hb
    split at h <;> try (simp at h; done)
    rename_i v hv
    split at h <;> try (simp at h; done)
    rename_i r' hr
    simp only [Option.some.injEq] at h; subst h
    obtain ⟨h1, h2, h3⟩ := bytesL_spec ρ hr
    obtain ⟨g1, _, g3⟩ := mkLin_spec hv ρ
    rw [byteL_spec hb ρ.s] at g1
    refine ⟨?_, by simp [h2], fun d => ⟨g3 d, h3 d⟩⟩
    simp only [List.map_cons, bytesOf, g1]
    congr 1
    · congr 1
      have : byteAt (linV ρ.s c l).toNat i = (linV ρ.s c l).toNat >>> (8 * i) % 256 := rfl
      rw [this, UInt8.toNat_ofNat', Nat.mod_mod]
      rfl
    · rw [h1, shr8' ]
/-- are two sums the same number? -/
def eqN (c : Int) (l : List LV) (c' : Int) (l' : List LV) : Option Bool := cmpD .eql (linMn (Int.add c (Int.mul (-1) c')) (addL l (mulL (-1) l'))) (linMx (Int.add c (Int.mul (-1) c')) (addL l (mulL (-1) l')))
theorem eqN_spec {c c' : Int} {l l' : List LV} {b : Bool} (h : eqN c l c' l' = some b) (s : Nat → Int) : (linV s c l == linV s c' l') = b := by
  have a := lin_rng s (Int.add c (Int.mul (-1) c')) (addL l (mulL (-1) l'))
  rw [linV_sub] at a
  have := cmpD_spec h a.1 a.2
  simp only [cmpI, eqI_eq, Option.some.injEq] at this
  exact this
end Go.Vai
