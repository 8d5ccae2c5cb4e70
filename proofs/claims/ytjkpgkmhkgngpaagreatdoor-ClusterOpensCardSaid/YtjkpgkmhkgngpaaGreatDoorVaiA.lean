/- The abstract values of the evaluator, its tries and its strings (kernel-friendly), and the laws of tries and strings. -/
import GoSem.Core.World
import Derived.Laws.Strings
namespace Go.Vai

/-! ### tries over binary keys -/
inductive Trie (α : Type) where
  | leaf
  | node (l : Trie α) (v : Option α) (r : Trie α)

noncomputable def Trie.root {α : Type} (t : Trie α) : Option α := @Trie.rec α (fun _ => Option α) none (fun _ v _ _ _ => v) t
noncomputable def Trie.left {α : Type} (t : Trie α) : Trie α := @Trie.rec α (fun _ => Trie α) .leaf (fun l _ _ _ _ => l) t
noncomputable def Trie.right {α : Type} (t : Trie α) : Trie α := @Trie.rec α (fun _ => Trie α) .leaf (fun _ _ r _ _ => r) t

noncomputable def Trie.getP {α : Type} (p : List Bool) : Trie α → Option α :=
  @List.rec Bool (fun _ => Trie α → Option α) Trie.root (fun b _ ih t => ih (@Bool.rec (fun _ => Trie α) t.right t.left b)) p
noncomputable def Trie.setP {α : Type} (p : List Bool) (x : Option α) : Trie α → Trie α :=
  @List.rec Bool (fun _ => Trie α → Trie α)
    (fun t => @Trie.rec α (fun _ => Trie α) (.node .leaf x .leaf) (fun l _ r _ _ => .node l x r) t)
    (fun b _ ih t => @Trie.rec α (fun _ => Trie α)
      (@Bool.rec (fun _ => Trie α) (.node .leaf none (ih .leaf)) (.node (ih .leaf) none .leaf) b)
      (fun l v r _ _ => @Bool.rec (fun _ => Trie α) (.node l v (ih r)) (.node (ih l) v r) b) t) p

/-- the key of a number -/
noncomputable def pathF (f : Nat) : Nat → List Bool :=
  @Nat.rec (fun _ => Nat → List Bool) (fun _ => [])
    (fun _ ih n => @Bool.rec (fun _ => List Bool) (@Bool.rec (fun _ => List Bool) (false :: ih (Nat.div n 2)) (true :: ih (Nat.div n 2)) (Nat.beq (Nat.mod n 2) 1)) [] (Nat.beq n 0)) f
noncomputable def path (n : Nat) : List Bool := pathF 24 n

noncomputable def Trie.get {α : Type} (t : Trie α) (n : Nat) : Option α := t.getP (path n)
noncomputable def Trie.set {α : Type} (t : Trie α) (n : Nat) (x : α) : Trie α := t.setP (path n) (some x)
noncomputable def Trie.del {α : Type} (t : Trie α) (n : Nat) : Trie α := t.setP (path n) none

section
variable {α : Type}
theorem getP_nil (t : Trie α) : t.getP [] = t.root := rfl
theorem getP_cons (b : Bool) (p : List Bool) (t : Trie α) : t.getP (b :: p) = (if b then t.left else t.right).getP p := by cases b <;> rfl
theorem getP_leaf : ∀ (p : List Bool), (Trie.leaf : Trie α).getP p = none
  | [] => rfl
  | b :: p => by rw [getP_cons]; cases b <;> exact getP_leaf p
theorem setP_nil (x : Option α) (t : Trie α) : t.setP [] x = .node t.left x t.right := by cases t <;> rfl
theorem setP_cons (b : Bool) (p : List Bool) (x : Option α) (t : Trie α) :
    t.setP (b :: p) x = if b then .node (t.left.setP p x) t.root t.right else .node t.left t.root (t.right.setP p x) := by
  cases t <;> cases b <;> rfl
theorem getP_setP_same (x : Option α) : ∀ (p : List Bool) (t : Trie α), (t.setP p x).getP p = x
  | [], t => by rw [setP_nil]; rfl
  | b :: p, t => by rw [setP_cons, getP_cons]; cases b <;> exact getP_setP_same x p _
theorem getP_setP_other (x : Option α) : ∀ (p q : List Bool) (t : Trie α), p ≠ q → (t.setP p x).getP q = t.getP q
  | [], [], _, h => absurd rfl h
  | [], b :: q, t, _ => by rw [setP_nil, getP_cons, getP_cons]; cases b <;> rfl
  | b :: p, [], t, _ => by rw [setP_cons]; cases b <;> rfl
  | b :: p, c :: q, t, h => by
    rw [setP_cons, getP_cons, getP_cons]
    cases b <;> cases c
    · exact getP_setP_other x p q _ (fun e => h (by rw [e]))
    · rfl
    · rfl
    · exact getP_setP_other x p q _ (fun e => h (by rw [e]))
end

theorem pathF_succ (f n : Nat) : pathF (f + 1) n = if n = 0 then [] else decide (n % 2 = 1) :: pathF f (n / 2) := by
  show @Bool.rec (fun _ => List Bool) (@Bool.rec (fun _ => List Bool) (false :: pathF f (n / 2)) (true :: pathF f (n / 2)) (Nat.beq (n % 2) 1)) [] (Nat.beq n 0) = _
  by_cases h : n = 0
  · subst h; rfl
  · have e : Nat.beq n 0 = false := by cases n <;> simp_all [Nat.beq]
    rw [e, if_neg h]
    by_cases g : n % 2 = 1
    · rw [g]; rfl
    · have g0 : n % 2 = 0 := by omega
      rw [g0]; rfl

theorem pathF_inj : ∀ (f n m : Nat), n < 2 ^ f → m < 2 ^ f → pathF f n = pathF f m → n = m
  | 0, n, m, hn, hm, _ => by simp at hn hm; omega
  | f + 1, n, m, hn, hm, h => by
    rw [pathF_succ, pathF_succ] at h
    by_cases a : n = 0 <;> by_cases b : m = 0 <;> simp [a, b] at h
    · omega
    · have h2 := pathF_inj f (n / 2) (m / 2) (by rw [Nat.pow_succ] at hn; omega) (by rw [Nat.pow_succ] at hm; omega) h.2
      have h1 := h.1
      by_cases c : n % 2 = 1 <;> by_cases d : m % 2 = 1 <;> simp [c, d] at h1 <;> omega

/-- numbers that have keys of their own -/
noncomputable def keyMax : Nat := 16777216
theorem path_inj {n m : Nat} (hn : n < keyMax) (hm : m < keyMax) (h : path n = path m) : n = m :=
  pathF_inj 24 n m (by simpa [keyMax] using hn) (by simpa [keyMax] using hm) h

theorem get_set_same {α : Type} (t : Trie α) (n : Nat) (x : α) : (t.set n x).get n = some x := getP_setP_same _ _ _
theorem get_set_other {α : Type} (t : Trie α) {n m : Nat} (x : α) (hn : n < keyMax) (hm : m < keyMax) (h : n ≠ m) : (t.set n x).get m = t.get m :=
  getP_setP_other _ _ _ _ fun e => h (path_inj hn hm e)
theorem get_del_same {α : Type} (t : Trie α) (n : Nat) : (t.del n).get n = none := getP_setP_same _ _ _
theorem get_del_other {α : Type} (t : Trie α) {n m : Nat} (hn : n < keyMax) (hm : m < keyMax) (h : n ≠ m) : (t.del n).get m = t.get m :=
  getP_setP_other _ _ _ _ fun e => h (path_inj hn hm e)
theorem get_leaf {α : Type} (n : Nat) : (Trie.leaf : Trie α).get n = none := getP_leaf _

/-! ### strings as numbers: 'len' bytes, the first one lowest -/
def bytesOf : Nat → Nat → List UInt8
  | 0, _ => []
  | k + 1, n => UInt8.ofNat (n % 256) :: bytesOf k (n / 256)
def strOf (len n : Nat) : ByteArray := ⟨(bytesOf len n).toArray⟩
def byteAt (n i : Nat) : Nat := Nat.mod (Nat.shiftRight n (Nat.mul 8 i)) 256
def subStr (n l h : Nat) : Nat := Nat.mod (Nat.shiftRight n (Nat.mul 8 l)) (Nat.pow 2 (Nat.mul 8 (Nat.sub h l)))
def catStr (a n m : Nat) : Nat := Nat.add n (Nat.shiftLeft m (Nat.mul 8 a))
def ofBytes : List UInt8 → Nat
  | [] => 0
  | b :: l => Nat.add b.toNat (Nat.mul 256 (ofBytes l))

theorem bytesOf_length : ∀ (k n : Nat), (bytesOf k n).length = k
  | 0, _ => rfl
  | k + 1, n => by simp [bytesOf, bytesOf_length k]
theorem strOf_size (k n : Nat) : (strOf k n).size = k := by simp [strOf, ByteArray.size, bytesOf_length]

theorem shr8 (n i : Nat) : n >>> (8 * (i + 1)) = (n / 256) >>> (8 * i) := by
  rw [show 8 * (i + 1) = 8 + 8 * i by omega, Nat.shiftRight_add, show n >>> 8 = n / 256 by rw [Nat.shiftRight_eq_div_pow]]

theorem bytesOf_get : ∀ (k n i : Nat) (h : i < (bytesOf k n).length), (bytesOf k n)[i] = UInt8.ofNat (byteAt n i)
  | 0, _, i, h => by simp [bytesOf] at h
  | k + 1, n, 0, _ => by simp [bytesOf, byteAt]; rfl
  | k + 1, n, i + 1, h => by
    simp only [bytesOf, List.getElem_cons_succ]
    rw [bytesOf_get k (n / 256) i]
    congr 1
    show ((n / 256) >>> (8 * i)) % 256 = (n >>> (8 * (i + 1))) % 256
    rw [shr8]

theorem bytesOf_ext (k : Nat) (n m : Nat) (h : ∀ i, i < k → byteAt n i = byteAt m i) : bytesOf k n = bytesOf k m := by
  apply List.ext_getElem
  · simp [bytesOf_length]
  · intro i h1 h2
    rw [bytesOf_get, bytesOf_get, h i (by simpa [bytesOf_length] using h1)]

theorem byteAt_lt (n i : Nat) : byteAt n i < 256 := Nat.mod_lt _ (by omega)

theorem byteAt_succ (n i : Nat) : byteAt n (i + 1) = byteAt (n / 256) i := by
  show (n >>> (8 * (i + 1))) % 256 = ((n / 256) >>> (8 * i)) % 256
  rw [shr8]
theorem byteAt_zero (n : Nat) : byteAt n 0 = n % 256 := by simp [byteAt]; rfl

theorem pow8_succ (k : Nat) : 2 ^ (8 * (k + 1)) = 256 * 2 ^ (8 * k) := by
  rw [show 8 * (k + 1) = 8 * k + 8 by omega, Nat.pow_add]; omega

theorem bytesOf_cat : ∀ (a b n m : Nat), n < 2 ^ (8 * a) → bytesOf (a + b) (catStr a n m) = bytesOf a n ++ bytesOf b m
  | 0, b, n, m, h => by
    have : n = 0 := by simpa using h
    subst this
    simp [bytesOf, catStr]
  | a + 1, b, n, m, h => by
    rw [show a + 1 + b = (a + b) + 1 by omega]
    simp only [bytesOf, List.cons_append]
    have hc : catStr (a + 1) n m = n + 256 * (m * 2 ^ (8 * a)) := by
      show n + m <<< (8 * (a + 1)) = _
      rw [Nat.shiftLeft_eq, pow8_succ, ← Nat.mul_assoc, Nat.mul_comm m 256, Nat.mul_assoc]
    have h1 : catStr (a + 1) n m % 256 = n % 256 := by rw [hc]; omega
    have h2 : catStr (a + 1) n m / 256 = catStr a (n / 256) m := by
      rw [hc]
      show _ = n / 256 + m <<< (8 * a)
      rw [Nat.shiftLeft_eq]
      omega
    rw [h1, h2, bytesOf_cat a b (n / 256) m (by rw [pow8_succ] at h; omega)]

theorem catStr_lt (a b n m : Nat) (hn : n < 2 ^ (8 * a)) (hm : m < 2 ^ (8 * b)) : catStr a n m < 2 ^ (8 * (a + b)) := by
  show n + m <<< (8 * a) < _
  rw [Nat.shiftLeft_eq, show 8 * (a + b) = 8 * a + 8 * b by omega, Nat.pow_add]
  have : (m + 1) * 2 ^ (8 * a) ≤ 2 ^ (8 * b) * 2 ^ (8 * a) := Nat.mul_le_mul_right _ hm
  rw [Nat.add_mul, Nat.one_mul] at this
  rw [Nat.mul_comm (2 ^ (8 * a))]
  omega

theorem byteAt_sub (n l h i : Nat) (hi : l + i < h) : byteAt (subStr n l h) i = byteAt n (l + i) := by
  show ((n >>> (8 * l)) % 2 ^ (8 * (h - l))) >>> (8 * i) % 256 = n >>> (8 * (l + i)) % 256
  rw [show 8 * (l + i) = 8 * l + 8 * i by omega, Nat.shiftRight_add]
  generalize n >>> (8 * l) = x
  have e : 8 * (h - l) = 8 * i + (8 + (8 * (h - l) - 8 * i - 8)) := by omega
  rw [Nat.shiftRight_eq_div_pow, Nat.shiftRight_eq_div_pow, e, Nat.pow_add, Nat.mod_mul_right_div_self, Nat.pow_add, Nat.mod_mul_right_mod]

theorem bytesOf_sub (k n l h : Nat) (hl : l ≤ h) (hh : h ≤ k) : bytesOf (h - l) (subStr n l h) = ((bytesOf k n).drop l).take (h - l) := by
  apply List.ext_getElem
  · simp [bytesOf_length]; omega
  · intro i h1 h2
    have hi : i < h - l := by simpa [bytesOf_length] using h1
    rw [bytesOf_get, List.getElem_take, List.getElem_drop, bytesOf_get, byteAt_sub n l h i (by omega)]

theorem subStr_lt (n l h : Nat) : subStr n l h < 2 ^ (8 * (h - l)) := Nat.mod_lt _ (Nat.two_pow_pos _)

theorem bytesOf_inj : ∀ (k n m : Nat), n < 2 ^ (8 * k) → m < 2 ^ (8 * k) → bytesOf k n = bytesOf k m → n = m
  | 0, n, m, hn, hm, _ => by simp at hn hm; omega
  | k + 1, n, m, hn, hm, h => by
    rw [pow8_succ] at hn hm
    simp only [bytesOf, List.cons.injEq] at h
    have h2 := bytesOf_inj k (n / 256) (m / 256) (by omega) (by omega) h.2
    have h1 : n % 256 = m % 256 := by
      have := congrArg UInt8.toNat h.1
      simpa [UInt8.toNat_ofNat'] using this
    omega

theorem bytesOf_ofBytes : ∀ (l : List UInt8), bytesOf l.length (ofBytes l) = l
  | [] => rfl
  | b :: l => by
    have hb := b.toNat_lt
    have h1 : ofBytes (b :: l) % 256 = b.toNat := by show (b.toNat + 256 * ofBytes l) % 256 = _; omega
    have h2 : ofBytes (b :: l) / 256 = ofBytes l := by show (b.toNat + 256 * ofBytes l) / 256 = _; omega
    simp only [List.length_cons, bytesOf, h1, h2, bytesOf_ofBytes l]
    simp
theorem ofBytes_lt : ∀ (l : List UInt8), ofBytes l < 2 ^ (8 * l.length)
  | [] => by simp [ofBytes]
  | b :: l => by
    have hb := b.toNat_lt
    have := ofBytes_lt l
    rw [List.length_cons, pow8_succ]
    show b.toNat + 256 * ofBytes l < _
    omega

/-! ### sums of unknown numbers, each within bounds -/
/-- a number within bounds -/
def clampI (lo : Int) (w : Nat) (x : Int) : Int := if x < lo then lo else if lo + w < x then lo + w else x
theorem clampI_in (lo : Int) (w : Nat) (x : Int) : lo ≤ clampI lo w x ∧ clampI lo w x ≤ lo + w := by
  unfold clampI; split
  · omega
  · split <;> omega
theorem clampI_self {lo x : Int} {w : Nat} (h : lo ≤ x) (h' : x ≤ lo + w) : clampI lo w x = x := by
  unfold clampI; rw [if_neg (by omega), if_neg (by omega)]
/-- so often the unknown 'j', which is from 'lo' to 'lo + w' -/
structure LV where
  j : Nat
  a : Int
  lo : Int
  w : Nat
def LV.val (s : Nat → Int) (x : LV) : Int := x.a * clampI x.lo x.w (s x.j)
def linV (s : Nat → Int) (c : Int) : List LV → Int
  | [] => c
  | x :: l => x.val s + linV s c l
def LV.mn (x : LV) : Int := match x.a with
  | .ofNat n => Int.mul (.ofNat n) x.lo
  | .negSucc n => Int.mul (.negSucc n) (Int.add x.lo (.ofNat x.w))
def LV.mx (x : LV) : Int := match x.a with
  | .ofNat n => Int.mul (.ofNat n) (Int.add x.lo (.ofNat x.w))
  | .negSucc n => Int.mul (.negSucc n) x.lo
def linMn (c : Int) : List LV → Int
  | [] => c
  | x :: l => Int.add x.mn (linMn c l)
def linMx (c : Int) : List LV → Int
  | [] => c
  | x :: l => Int.add x.mx (linMx c l)
theorem LV.rng (s : Nat → Int) (x : LV) : x.mn ≤ x.val s ∧ x.val s ≤ x.mx := by
  obtain ⟨h1, h2⟩ := clampI_in x.lo x.w (s x.j)
  unfold LV.mn LV.mx LV.val
  cases x.a with
  | ofNat n =>
    have hn : (0 : Int) ≤ Int.ofNat n := Int.natCast_nonneg n
    exact ⟨Int.mul_le_mul_of_nonneg_left h1 hn, Int.mul_le_mul_of_nonneg_left h2 hn⟩
  | negSucc n =>
    have hn : Int.negSucc n ≤ 0 := by omega
    exact ⟨Int.mul_le_mul_of_nonpos_left hn h2, Int.mul_le_mul_of_nonpos_left hn h1⟩
theorem lin_rng (s : Nat → Int) (c : Int) : ∀ l : List LV, linMn c l ≤ linV s c l ∧ linV s c l ≤ linMx c l
  | [] => ⟨Int.le_refl _, Int.le_refl _⟩
  | x :: l => by
    obtain ⟨h1, h2⟩ := x.rng s
    obtain ⟨h3, h4⟩ := lin_rng s c l
    exact ⟨Int.add_le_add h1 h3, Int.add_le_add h2 h4⟩

/-! ### what unknown numbers come to by bits and tables -/
inductive SE where
  | lin (c : Int) (l : List LV)
  | xor (a b : SE)
  | shr (n : Nat) (a : SE)
  | low (a : SE)
  | tab (vs : List Int) (a : SE)
  | shl8 (a : SE)
def SE.val (s : Nat → Int) : SE → Nat
  | .lin c l => (linV s c l).toNat
  | .xor a b => Nat.xor (a.val s) (b.val s)
  | .shr n a => Nat.shiftRight (a.val s) n
  | .low a => a.val s % 256
  | .tab vs a => (vs.getD (a.val s) 0).toNat
  | .shl8 a => a.val s * 256

/-! ### values -/
inductive AV where
  | bool (b : Bool)
  | int (k : IntKind) (n : Int)
  | str (len n : Nat)
  | nilp
  | ptr (b o : Nat)
  | snil
  | slice (b o len cap : Nat) (opn : Bool)
  | edge (b o d : Nat)
  | mnil
  | map (r : Nat)
  | func (fn : Fn) (first captured : List AV)
  | nilFunc
  | iface (t : TypeId) (v : AV)
  | nilIface
  | agg (cs : List AV)
  | tuple (cs : List AV)
  | lint (k : IntKind) (c : Int) (l : List LV)
  | lstr (len : Nat) (c : Int) (l : List LV)
  | tab (k : IntKind) (j : Nat) (lo : Int) (vs : List Int)
  | tptr (b j : Nat) (lo : Int) (os : List Nat)
  | ubool (j : Nat)
  | cond (j : Nat) (a b : AV)
  | aslice (a len cap : Nat)
  | sx (k : IntKind) (b : Nat) (e : SE)
  | aptr (a i : Nat)

/-- which of 'n' rows an unknown picks that is from 'lo' on -/
def tabIx (s : Nat → Int) (j : Nat) (lo : Int) (n : Nat) : Nat := (clampI lo (n - 1) (s j) - lo).toNat
theorem tabIx_lt (s : Nat → Int) (j : Nat) (lo : Int) {n : Nat} (h : 0 < n) : tabIx s j lo n < n := by
  have := clampI_in lo (n - 1) (s j)
  unfold tabIx
  omega

/-- an unknown that is yes or no -/
def yesB (s : Nat → Int) (j : Nat) : Bool := decide (clampI 0 1 (s j) = 1)
def notAgg : Value → Value
  | .agg _ => .bool false
  | v => v

/-- what becomes of abstract blocks: their blocks, for those in 'd'; and how many elements more there is room for behind an open one -/
structure Ren where
  m : Nat → Nat
  d : Nat → Prop
  e : Nat → Nat
  s : Nat → Int

mutual
def toV (ρ : Ren) : AV → Value
  | .bool b => .bool b
  | .int k n => .int k n
  | .str len n => .string (strOf len n)
  | .nilp => .pointer none
  | .ptr b o => .pointer (some ⟨ρ.m b, o, none⟩)
  | .snil => .slice none 0 0
  | .slice b o len cap opn => .slice (some ⟨ρ.m b, o, none⟩) len (if opn then cap + ρ.e b else cap)
  | .edge b o d => .slice (some (if ρ.e b = 0 then ⟨ρ.m b, o, none⟩ else ⟨ρ.m b, o + d, none⟩)) 0 (ρ.e b)
  | .mnil => .map none
  | .map r => .map (some (ρ.m r))
  | .func fn first captured => .func fn (toVs ρ first).toArray (toVs ρ captured).toArray
  | .nilFunc => .nilFunc
  | .iface t v => .iface t (toV ρ v)
  | .nilIface => .nilIface
  | .agg cs => .agg (toVs ρ cs).toArray
  | .tuple cs => .tuple (toVs ρ cs).toArray
  | .lint k c l => .int k (linV ρ.s c l)
  | .lstr len c l => .string (strOf len (linV ρ.s c l).toNat)
  | .tab k j lo vs => .int k (vs.getD (tabIx ρ.s j lo vs.length) 0)
  | .tptr b j lo os => .pointer (some ⟨ρ.m b, os.getD (tabIx ρ.s j lo os.length) 0, none⟩)
  | .ubool j => .bool (yesB ρ.s j)
  | .cond j a b => notAgg (if yesB ρ.s j then toV ρ a else toV ρ b)
  | .aslice a len cap => .slice (some ⟨ρ.m a, ρ.e a, none⟩) len cap
  | .sx k _ e => .int k (e.val ρ.s : Nat)
  | .aptr a i => .pointer (some ⟨ρ.m a, ρ.e a + i, none⟩)
def toVs (ρ : Ren) : List AV → List Value
  | [] => []
  | v :: l => toV ρ v :: toVs ρ l
end

mutual
def okv (d : Nat → Prop) : AV → Prop
  | .str len n => n < 2 ^ (8 * len)
  | .lstr len c l => 0 ≤ linMn c l ∧ linMx c l < 2 ^ (8 * len)
  | .ptr b _ => d b
  | .slice b _ _ _ _ => d b
  | .edge b _ _ => d b
  | .tptr b _ _ _ => d b
  | .aslice a _ _ => d a
  | .sx _ b e => ∀ s, e.val s < 2 ^ b
  | .aptr a _ => d a
  | .map r => d r
  | .func _ first captured => okvs d first ∧ okvs d captured
  | .iface _ v => okv d v
  | .cond _ a b => okv d a ∧ okv d b
  | .agg cs => okvs d cs
  | .tuple cs => okvs d cs
  | _ => True
def okvs (d : Nat → Prop) : List AV → Prop
  | [] => True
  | v :: l => okv d v ∧ okvs d l
end

/-- one renaming goes on with another one -/
structure Ren.Le (ρ ρ' : Ren) : Prop where
  d : ∀ b, ρ.d b → ρ'.d b
  m : ∀ b, ρ.d b → ρ'.m b = ρ.m b
  e : ∀ b, ρ.d b → ρ'.e b = ρ.e b
  s : ρ'.s = ρ.s

theorem Ren.Le.refl (ρ : Ren) : ρ.Le ρ := ⟨fun _ h => h, fun _ _ => rfl, fun _ _ => rfl, rfl⟩
theorem Ren.Le.trans {a b c : Ren} (h : a.Le b) (k : b.Le c) : a.Le c :=
  ⟨fun x hx => k.d x (h.d x hx), fun x hx => (k.m x (h.d x hx)).trans (h.m x hx), fun x hx => (k.e x (h.d x hx)).trans (h.e x hx), k.s.trans h.s⟩

mutual
theorem toV_le {ρ ρ' : Ren} (h : ρ.Le ρ') : ∀ v : AV, okv ρ.d v → toV ρ' v = toV ρ v
  | .bool _, _ | .int _ _, _ | .str _ _, _ | .nilp, _ | .snil, _ | .mnil, _ | .nilFunc, _ | .nilIface, _ => by simp [toV]
  | .ptr b o, hv => by simp [toV, h.m b hv]
  | .slice b o l c p, hv => by simp [toV, h.m b hv, h.e b hv]
  | .edge b o c, hv => by simp [toV, h.m b hv, h.e b hv]
  | .map r, hv => by simp [toV, h.m r hv]
  | .func fn a c, hv => by simp [toV, toVs_le h a hv.1, toVs_le h c hv.2]
  | .iface t v, hv => by simp [toV, toV_le h v hv]
  | .agg cs, hv => by simp [toV, toVs_le h cs hv]
  | .tuple cs, hv => by simp [toV, toVs_le h cs hv]
  | .lint k c l, _ => by simp [toV, h.s]
  | .lstr k c l, _ => by simp [toV, h.s]
  | .tab _ _ _ _, _ => by simp [toV, h.s]
  | .tptr b _ _ _, hv => by simp [toV, h.m b hv, h.s]
  | .aslice a _ _, hv => by simp [toV, h.m a hv, h.e a hv]
  | .sx _ _ _, _ => by simp [toV, h.s]
  | .aptr a _, hv => by simp [toV, h.m a hv, h.e a hv]
  | .ubool _, _ => by simp [toV, h.s]
  | .cond _ a b, hv => by simp [toV, h.s, toV_le h a hv.1, toV_le h b hv.2]
theorem toVs_le {ρ ρ' : Ren} (h : ρ.Le ρ') : ∀ l : List AV, okvs ρ.d l → toVs ρ' l = toVs ρ l
  | [], _ => rfl
  | v :: l, hv => by simp [toVs, toV_le h v hv.1, toVs_le h l hv.2]
end
mutual
theorem okv_mono {d d' : Nat → Prop} (h : ∀ b, d b → d' b) : ∀ v : AV, okv d v → okv d' v
  | .bool _, _ | .int _ _, _ | .nilp, _ | .snil, _ | .mnil, _ | .nilFunc, _ | .nilIface, _ => by simp [okv]
  | .str _ _, hv => by simpa [okv] using hv
  | .lstr _ _ _, hv => by simpa only [okv] using hv
  | .lint _ _ _, _ => by simp [okv]
  | .tab _ _ _ _, _ => by simp [okv]
  | .ubool _, _ => by simp [okv]
  | .cond _ a b, hv => ⟨okv_mono h a hv.1, okv_mono h b hv.2⟩
  | .tptr b _ _ _, hv => h b hv
  | .aslice b _ _, hv => h b hv
  | .sx _ _ _, hv => by simpa only [okv] using hv
  | .aptr b _, hv => h b hv
  | .ptr b o, hv => h b hv
  | .slice b o l c p, hv => h b hv
  | .edge b o c, hv => h b hv
  | .map r, hv => h r hv
  | .func fn a c, hv => ⟨okvs_mono h a hv.1, okvs_mono h c hv.2⟩
  | .iface t v, hv => okv_mono h v hv
  | .agg cs, hv => okvs_mono h cs hv
  | .tuple cs, hv => okvs_mono h cs hv
theorem okvs_mono {d d' : Nat → Prop} (h : ∀ b, d b → d' b) : ∀ l : List AV, okvs d l → okvs d' l
  | [], _ => trivial
  | v :: l, hv => ⟨okv_mono h v hv.1, okvs_mono h l hv.2⟩
end

theorem toVs_map (ρ : Ren) : ∀ l : List AV, toVs ρ l = l.map (toV ρ)
  | [] => rfl
  | v :: l => by simp [toVs, toVs_map ρ l]
theorem okvs_iff (d : Nat → Prop) : ∀ l : List AV, okvs d l ↔ ∀ v ∈ l, okv d v
  | [] => by simp [okvs]
  | v :: l => by simp [okvs, okvs_iff d l]

end Go.Vai
