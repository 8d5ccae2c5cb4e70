/- Numbers that unknown ones come to by bits and by tables: kept as what they are made of. -/
import Derived.Test.YtjkpgkmhkgngpaaGreatDoorVaiCt
namespace Go.Vai
open Go.RowKit

def lvEq0 (a b : LV) : Bool := and (and (Nat.beq a.j b.j) (eqI a.a b.a)) (and (eqI a.lo b.lo) (Nat.beq a.w b.w))
theorem lvEq0_sound {a b : LV} (h : lvEq0 a b = true) : a = b := by
  obtain ⟨j, x, lo, w⟩ := a
  obtain ⟨j', x', lo', w'⟩ := b
  simp only [lvEq0, Bool.and_eq_true, Nat.beq_eq, eqI_eq, beq_iff_eq] at h
  obtain ⟨⟨rfl, rfl⟩, rfl, rfl⟩ := h
  rfl
def lvsEq0 : List LV → List LV → Bool
  | [], [] => true
  | a :: l, b :: l' => and (lvEq0 a b) (lvsEq0 l l')
  | _, _ => false
theorem lvsEq0_sound : ∀ (a b : List LV), lvsEq0 a b = true → a = b
  | [], b, h => by cases b <;> simp [lvsEq0] at h; rfl
  | x :: l, b, h => by
    cases b <;> simp [lvsEq0] at h
    rw [lvEq0_sound h.1, lvsEq0_sound _ _ h.2]
def seEq : SE → SE → Bool
  | .lin c l, .lin c' l' => and (eqI c c') (lvsEq0 l l')
  | .xor a b, .xor a' b' => and (seEq a a') (seEq b b')
  | .shr n a, .shr n' a' => and (Nat.beq n n') (seEq a a')
  | .low a, .low a' => seEq a a'
  | .tab vs a, .tab vs' a' => and (seEq a a') (eqIs vs vs')
  | .shl8 a, .shl8 a' => seEq a a'
  | _, _ => false
theorem seEq_sound : ∀ (a b : SE), seEq a b = true → a = b
  | .lin c l, b, h => by
    cases b <;> simp [seEq, eqI_eq] at h
    rw [h.1, lvsEq0_sound _ _ h.2]
  | .xor x y, b, h => by
    cases b <;> simp [seEq] at h
    rw [seEq_sound x _ h.1, seEq_sound y _ h.2]
  | .shr n x, b, h => by
    cases b <;> simp [seEq] at h
    rw [h.1, seEq_sound x _ h.2]
  | .low x, b, h => by
    cases b <;> simp [seEq] at h
    rw [seEq_sound x _ h]
  | .tab vs x, b, h => by
    cases b <;> simp [seEq] at h
    rw [seEq_sound x _ h.1, eqIs_spec h.2]
  | .shl8 x, b, h => by
    cases b <;> simp [seEq] at h
    rw [seEq_sound x _ h]

/-- a number as such: its kind, how many bits it has at most -/
structure Sv where
  k : IntKind
  b : Nat
  e : SE
def bits8 (hi : Int) : Option Nat := match ltI hi 256 with
  | true => some 8
  | false => match ltI hi 4294967296 with
    | true => some 32
    | false => none
def viewS (v : AV) : Option Sv := match v with
  | .int k n => match ltI n 0 with
    | true => none
    | false => match bits8 n with
      | some b => some ⟨k, b, .lin n []⟩
      | none => none
  | .lint k c l => match ltI (linMn c l) 0 with
    | true => none
    | false => match bits8 (linMx c l) with
      | some b => some ⟨k, b, .lin c l⟩
      | none => none
  | .sx k b e => some ⟨k, b, e⟩
  | _ => none
theorem bits8_spec {hi : Int} {b : Nat} (h : bits8 hi = some b) {n : Nat} (hn : (n : Int) ≤ hi) : n < 2 ^ b := by
  unfold bits8 at h
  split at h
  · rename_i e
    rw [ltI_eq] at e
    have e := of_decide_eq_true e
    simp only [Option.some.injEq] at h; subst h
    omega
  · split at h
    · rename_i e
      rw [ltI_eq] at e
      have e := of_decide_eq_true e
      simp only [Option.some.injEq] at h; subst h
      omega
    · simp at h
theorem viewS_spec {v : AV} {x : Sv} (h : viewS v = some x) {d : Nat → Prop} (hv : okv d v) : (∀ s, x.e.val s < 2 ^ x.b) ∧ ∀ ρ : Ren, toV ρ v = .int x.k (x.e.val ρ.s : Nat) := by
  have lin : ∀ (k : IntKind) (c : Int) (l : List LV) (b : Nat), ltI (linMn c l) 0 = false → bits8 (linMx c l) = some b →
      (∀ s, (SE.lin c l).val s < 2 ^ b) ∧ ∀ ρ : Ren, Value.int k (linV ρ.s c l) = .int k ((SE.lin c l).val ρ.s : Nat) := by
    intro k c l b h1 h2
    rw [ltI_eq, decide_eq_false_iff_not] at h1
    refine ⟨fun s => bits8_spec h2 ?_, fun ρ => ?_⟩
    · have a := lin_rng s c l
      simp only [SE.val]; omega
    · have a := lin_rng ρ.s c l
      simp only [SE.val]
      congr 1
      omega
  unfold viewS at h
  split at h
  · rename_i k n
    split at h
    · simp at h
    · rename_i h1
      split at h
      · rename_i b hb
        simp only [Option.some.injEq] at h; subst h
        exact lin k n [] b h1 hb
      · simp at h
  · rename_i k c l
    split at h
    · simp at h
    · rename_i h1
      split at h
      · rename_i b hb
        simp only [Option.some.injEq] at h; subst h
        exact lin k c l b h1 hb
      · simp at h
  · simp only [Option.some.injEq] at h; subst h
    exact ⟨hv, fun _ => rfl⟩
  · simp at h
def maxNat (a b : Nat) : Nat := match Nat.ble a b with
  | true => b
  | false => a
theorem maxNat_l (a b : Nat) : a ≤ maxNat a b ∧ b ≤ maxNat a b := by
  unfold maxNat
  split
  · rename_i h; have := Nat.le_of_ble_eq_true h; omega
  · rename_i h
    have : ¬ a ≤ b := fun e => by rw [Nat.ble_eq_true_of_le e] at h; simp at h
    omega
def mkShr (n : Nat) (e : SE) : SE := match n with
  | 0 => e
  | n + 1 => match e with
    | .shr m a => .shr (Nat.add m (Nat.succ n)) a
    | _ => .shr (Nat.succ n) e
theorem mkShr_val (s : Nat → Int) (n : Nat) (e : SE) : (mkShr n e).val s = e.val s >>> n := by
  unfold mkShr
  split
  · rfl
  · split
    · rename_i m a
      show a.val s >>> (m + (_ + 1)) = (a.val s >>> m) >>> _
      rw [Nat.shiftRight_add]
    · rfl
def getShr (e : SE) : Nat × SE := match e with
  | .shr n a => (n, a)
  | _ => (0, e)
theorem getShr_val (s : Nat → Int) (e : SE) : e.val s = (getShr e).2.val s >>> (getShr e).1 := by
  cases e <;> rfl
/-- (e >> (n + 8)) << 8 | byte(e >> n) -/
def packE (a b : SE) : Option SE := match a with
  | .shl8 a => match b with
    | .low b => match and (Nat.beq (getShr a).1 (Nat.add (getShr b).1 8)) (seEq (getShr a).2 (getShr b).2) with
      | true => some (mkShr (getShr b).1 (getShr b).2)
      | false => none
    | _ => none
  | _ => none
theorem packE_spec {a b r : SE} (h : packE a b = some r) (s : Nat → Int) : Nat.lor (a.val s) (b.val s) = r.val s := by
  unfold packE at h
  split at h <;> try (simp at h; done)
  rename_i a
  split at h <;> try (simp at h; done)
  rename_i b
  split at h <;> try (simp at h; done)
  rename_i e
  simp only [Option.some.injEq] at h; subst h
  simp only [Bool.and_eq_true, Nat.beq_eq] at e
  obtain ⟨e1, e2⟩ := e
  have e2 := seEq_sound _ _ e2
  have e1 : (getShr a).1 = (getShr b).1 + 8 := e1
  rw [mkShr_val]
  simp only [SE.val]
  rw [getShr_val s a, getShr_val s b, e1, e2, Nat.shiftRight_add]
  generalize (getShr b).2.val s >>> (getShr b).1 = q
  have hq : q >>> 8 = q / 256 := by rw [Nat.shiftRight_eq_div_pow]
  rw [hq]
  have := Nat.two_pow_add_eq_or_of_lt (i := 8) (b := q % 256) (by omega) (q / 256)
  have e : Nat.lor (q / 256 * 256) (q % 256) = 2 ^ 8 * (q / 256) + q % 256 := by
    rw [this]
    congr 1
    omega
  rw [e]; omega
def shlS (k : IntKind) (b : Nat) (e : SE) : Option AV := match Nat.ble (Nat.add b 8) (mbits k) with
  | true => some (.sx k (Nat.add b 8) (.shl8 e))
  | false => none
def zeroE (e : SE) : Bool := match e with
  | .lin c l => match l with
    | [] => eqI c 0
    | _ => false
  | _ => false
theorem zeroE_spec {e : SE} (h : zeroE e = true) (s : Nat → Int) : e.val s = 0 := by
  unfold zeroE at h
  split at h
  · split at h
    · simp only [eqI_eq, beq_iff_eq] at h
      subst h; rfl
    · simp at h
  · simp at h
def sxBin (op : BinOp) (x y : AV) : Option AV := match viewS x with
  | none => none
  | some X => match op with
    | .shr => match y with
      | .int _ n => match n with
        | .ofNat n => match Nat.blt n (bitsN X.k) with
          | true => some (.sx X.k (Nat.sub X.b n) (mkShr n X.e))
          | false => none
        | .negSucc _ => none
      | _ => none
    | .shl => match y with
      | .int _ n => match n with
        | .ofNat n => match Nat.beq n 8 with
          | true => shlS X.k X.b X.e
          | false => none
        | .negSucc _ => none
      | _ => none
    | _ => match viewS y with
      | none => none
      | some Y => match and (decide (X.k = Y.k)) (Nat.ble (maxNat X.b Y.b) (mbits X.k)) with
        | false => none
        | true => match op with
          | .xor => some (.sx X.k (maxNat X.b Y.b) (.xor X.e Y.e))
          | .or => match zeroE X.e with
            | true => some (.sx X.k Y.b Y.e)
            | false => match packE X.e Y.e with
              | some e => some (.sx X.k (maxNat X.b Y.b) e)
              | none => none
          | .eql => match seEq X.e Y.e with
            | true => some (.bool true)
            | false => none
          | .neq => match seEq X.e Y.e with
            | true => some (.bool false)
            | false => none
          | _ => none
theorem lt_mbits {k : IntKind} {b n : Nat} (hb : Nat.ble b (mbits k) = true) (hn : n < 2 ^ b) : n ≤ maxN k := by
  rw [maxN_lt]
  exact Nat.lt_of_lt_of_le hn (Nat.pow_le_pow_right (by omega) (Nat.le_of_ble_eq_true hb))
theorem bitsI_nat {op : BinOp} {k : IntKind} {a b r : Nat} (hle : Nat.lor a b ≤ maxN k) (hr : bitsFast op k a b = some r) : bitsI op k (a : Int) (b : Int) = some (r : Int) := by
  show (match Nat.ble (Nat.lor a b) (maxN k) with
      | true => match bitsFast op k a b with
        | some r => some (Int.ofNat r)
        | none => none
      | false => bitsGen op k (.ofNat a) (.ofNat b)) = _
  rw [Nat.ble_eq_true_of_le hle, hr]; rfl
theorem sxBin_spec {op : BinOp} {x y r : AV} (hr : sxBin op x y = some r) (ρ : Ren) {d : Nat → Prop} (hx : okv d x) (hy : okv d y) :
    ∃ k a k' b r0, toV ρ x = .int k a ∧ toV ρ y = .int k' b ∧ intI op k a k' b = some r0 ∧ toV ρ r = toV ρ r0 ∧ okv d r := by
  unfold sxBin at hr
  split at hr
  · simp at hr
  · rename_i X hX
    obtain ⟨x1, x2⟩ := viewS_spec hX hx
    split at hr
    · -- shr
      split at hr <;> try (simp at hr; done)
      split at hr <;> try (simp at hr; done)
      rename_i k' _ n
      split at hr <;> try (simp at hr; done)
      rename_i hn
      simp only [Option.some.injEq] at hr; subst hr
      have hm : minN n (bitsN X.k) = n := by
        rw [blt_eq] at hn
        have := of_decide_eq_true hn
        rw [minN_eq]; omega
      refine ⟨_, _, _, _, .int X.k (.ofNat (Nat.shiftRight (X.e.val ρ.s) n)), x2 ρ, rfl, ?_, ?_, ?_⟩
      · show intI .shr X.k (.ofNat (X.e.val ρ.s)) k' (.ofNat n) = _
        simp only [intI, shiftI, hm]
      · simp only [toV, mkShr_val]; rfl
      · intro s
        rw [mkShr_val, Nat.shiftRight_eq_div_pow]
        have := x1 s
        rcases Nat.lt_or_ge n X.b with h | h
        · show X.e.val s / 2 ^ n < 2 ^ (X.b - n)
          rw [Nat.div_lt_iff_lt_mul (Nat.two_pow_pos n), ← Nat.pow_add]
          rw [show X.b - n + n = X.b by omega]; exact this
        · show X.e.val s / 2 ^ n < 2 ^ (X.b - n)
          have : X.e.val s < 2 ^ n := Nat.lt_of_lt_of_le this (Nat.pow_le_pow_right (by omega) h)
          rw [Nat.div_eq_of_lt this]
          exact Nat.two_pow_pos _
    · -- shl
      split at hr <;> try (simp at hr; done)
      split at hr <;> try (simp at hr; done)
      rename_i k' _ n
      split at hr <;> try (simp at hr; done)
      rename_i hn
      have hn := Nat.eq_of_beq_eq_true hn
      subst hn
      unfold shlS at hr
      split at hr <;> try (simp at hr; done)
      rename_i hb
      simp only [Option.some.injEq] at hr; subst hr
      have lt8 : ∀ s, X.e.val s * 256 < 2 ^ (X.b + 8) := fun s => by
        have := x1 s
        rw [Nat.pow_add]
        exact Nat.mul_lt_mul_of_pos_right this (by omega)
      have hmx : X.e.val ρ.s * 256 ≤ maxN X.k := lt_mbits hb (lt8 ρ.s)
      have hk : 8 ≤ bitsN X.k := by cases X.k <;> simp [bitsN]
      have hm : minN 8 (bitsN X.k) = 8 := by rw [minN_eq]; omega
      refine ⟨_, _, _, _, .int X.k (wrapI X.k (.ofNat (Nat.shiftLeft (X.e.val ρ.s) 8))), x2 ρ, rfl, ?_, ?_, lt8⟩
      · show intI .shl X.k (.ofNat (X.e.val ρ.s)) k' (.ofNat 8) = _
        simp only [intI, shiftI, hm]
      · have e : Nat.shiftLeft (X.e.val ρ.s) 8 = X.e.val ρ.s * 256 := by
          show X.e.val ρ.s <<< 8 = _
          rw [Nat.shiftLeft_eq]
        rw [e, wrapI_eq]
        simp only [toV, SE.val]
        congr 1
        exact (wrap_in X.k _ hmx).symm
    · split at hr
      · simp at hr
      · rename_i Y hY
        obtain ⟨y1, y2⟩ := viewS_spec hY hy
        split at hr
        · simp at hr
        · rename_i hg
          simp only [Bool.and_eq_true] at hg
          have hk := of_decide_eq_true hg.1
          have hb := hg.2
          obtain ⟨m1, m2⟩ := maxNat_l X.b Y.b
          have big : ∀ s, Nat.lor (X.e.val s) (Y.e.val s) < 2 ^ maxNat X.b Y.b := fun s =>
            Nat.or_lt_two_pow (Nat.lt_of_lt_of_le (x1 s) (Nat.pow_le_pow_right (by omega) m1)) (Nat.lt_of_lt_of_le (y1 s) (Nat.pow_le_pow_right (by omega) m2))
          have hle : Nat.lor (X.e.val ρ.s) (Y.e.val ρ.s) ≤ maxN X.k := lt_mbits hb (big ρ.s)
          have hyv := y2 ρ
          rw [← hk] at hyv
          split at hr
          · simp only [Option.some.injEq] at hr; subst hr
            refine ⟨_, _, _, _, .int X.k ((Nat.xor (X.e.val ρ.s) (Y.e.val ρ.s) : Nat) : Int), x2 ρ, hyv, ?_, rfl, fun s => ?_⟩
            · simp only [intI, decide_true, bitsI_nat hle (op := .xor) rfl]
            · exact Nat.xor_lt_two_pow (Nat.lt_of_lt_of_le (x1 s) (Nat.pow_le_pow_right (by omega) m1)) (Nat.lt_of_lt_of_le (y1 s) (Nat.pow_le_pow_right (by omega) m2))
          · split at hr
            · rename_i hz
              simp only [Option.some.injEq] at hr; subst hr
              refine ⟨_, _, _, _, .int X.k ((Nat.lor (X.e.val ρ.s) (Y.e.val ρ.s) : Nat) : Int), x2 ρ, hyv, ?_, ?_, y1⟩
              · simp only [intI, decide_true, bitsI_nat hle (op := .or) rfl]
              · have : Nat.lor (X.e.val ρ.s) (Y.e.val ρ.s) = Y.e.val ρ.s := by
                  rw [zeroE_spec hz ρ.s]
                  show 0 ||| Y.e.val ρ.s = _
                  simp
                rw [this]; rfl
            · split at hr
              · rename_i e he
                simp only [Option.some.injEq] at hr; subst hr
                refine ⟨_, _, _, _, .int X.k ((Nat.lor (X.e.val ρ.s) (Y.e.val ρ.s) : Nat) : Int), x2 ρ, hyv, ?_, ?_, fun s => ?_⟩
                · simp only [intI, decide_true, bitsI_nat hle (op := .or) rfl]
                · rw [packE_spec he ρ.s]; rfl
                · rw [← packE_spec he s]; exact big s
              · simp at hr
          · split at hr
            · rename_i he
              have he := seEq_sound _ _ he
              simp only [Option.some.injEq] at hr; subst hr
              refine ⟨_, _, _, _, .bool true, x2 ρ, hyv, ?_, rfl, trivial⟩
              simp only [intI, decide_true, cmpI, eqI_eq, he, BEq.rfl]
            · simp at hr
          · split at hr
            · rename_i he
              have he := seEq_sound _ _ he
              simp only [Option.some.injEq] at hr; subst hr
              refine ⟨_, _, _, _, .bool false, x2 ρ, hyv, ?_, rfl, trivial⟩
              simp only [intI, decide_true, cmpI, eqI_eq, he, BEq.rfl, Bool.not_true]
            · simp at hr
          · simp at hr

/-- in another kind -/
def sxCon (k : IntKind) (v : AV) : Option AV := match v with
  | .sx _ b e => match Nat.ble b (mbits k) with
    | true => some (.sx k b e)
    | false => match decide (k = .u8) with
      | true => some (.sx k 8 (.low e))
      | false => none
  | _ => none
theorem sxCon_spec {k : IntKind} {v r : AV} (h : sxCon k v = some r) (ρ : Ren) {d : Nat → Prop} (hv : okv d v) : ∃ k' a, toV ρ v = .int k' a ∧ toV ρ r = .int k (k.wrap a) ∧ okv d r := by
  unfold sxCon at h
  split at h
  · rename_i k' b e
    split at h
    · rename_i hb
      simp only [Option.some.injEq] at h; subst h
      refine ⟨k', _, rfl, ?_, hv⟩
      rw [wrap_in k _ (lt_mbits hb (hv ρ.s))]; rfl
    · split at h
      · rename_i hk
        have hk := of_decide_eq_true hk
        subst hk
        simp only [Option.some.injEq] at h; subst h
        refine ⟨k', _, rfl, ?_, fun s => ?_⟩
        · simp only [toV, SE.val, IntKind.wrap, IntKind.bits, IntKind.signed]
          simp
        · show e.val s % 256 < 2 ^ 8
          omega
      · simp at h
  · simp at h
/-- a table looked into -/
def tabZ (vs : List Int) : Bool := vs.all fun v => and (not (ltI v 0)) (ltI v 4294967296)
def sxTab (k : IntKind) (vs : List Int) (i : AV) : Option AV := match i with
  | .sx _ b e => match and (and (Nat.ble b 8) (Nat.beq vs.length 256)) (and (decide (k = .u32)) (tabZ vs)) with
    | true => some (.sx k 32 (.tab vs e))
    | false => none
  | _ => none
theorem sxTab_spec {k : IntKind} {vs : List Int} {i r : AV} (h : sxTab k vs i = some r) (ρ : Ren) {d : Nat → Prop} (hi : okv d i) : vs.length = 256 ∧ (∃ kk, ∃ m : Nat, m < 256 ∧ toV ρ i = .int kk (m : Int) ∧ ∃ v, vs[m]? = some v ∧ toV ρ r = .int k v) ∧ okv d r := by
  unfold sxTab at h
  split at h
  · rename_i k' b e
    split at h
    · rename_i hg
      simp only [Bool.and_eq_true, Nat.beq_eq] at hg
      obtain ⟨⟨hb, hl⟩, hk, ht⟩ := hg
      simp only [Option.some.injEq] at h; subst h
      have lt : ∀ s, e.val s < 256 := fun s => Nat.lt_of_lt_of_le (hi s) (show 2 ^ b ≤ 2 ^ 8 from Nat.pow_le_pow_right (by omega) (Nat.le_of_ble_eq_true hb))
      have rng : ∀ s, ∃ v, vs[e.val s]? = some v ∧ 0 ≤ v ∧ v < 4294967296 := fun s => by
        have hlt : e.val s < vs.length := by rw [hl]; exact lt s
        refine ⟨vs[e.val s], List.getElem?_eq_getElem hlt, ?_⟩
        have := List.all_eq_true.1 ht _ (List.getElem_mem hlt)
        simp only [Bool.and_eq_true, Bool.not_eq_true', ltI_eq, decide_eq_false_iff_not, decide_eq_true_eq] at this
        omega
      refine ⟨hl, ⟨k', e.val ρ.s, lt ρ.s, rfl, ?_⟩, fun s => ?_⟩
      · obtain ⟨v, v1, v2, v3⟩ := rng ρ.s
        refine ⟨v, v1, ?_⟩
        simp only [toV, SE.val]
        rw [List.getD_eq_getElem?_getD, v1]
        congr 1
        simp only [Option.getD_some]
        omega
      · obtain ⟨v, v1, v2, v3⟩ := rng s
        simp only [SE.val]
        rw [List.getD_eq_getElem?_getD, v1]
        simp only [Option.getD_some]
        omega
    · simp at h
  · simp at h
end Go.Vai
