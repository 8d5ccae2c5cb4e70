/- The library's functions without a body, by name. -/
import Derived.Test.YtjkpgkmhkgngpaaGreatDoorVaiM
import Derived.KernelRfl
namespace Go.Vai
open Go.RowKit

section
variable {G : Nat} {w0 : Base} {ρ : Ren} {h : Hp} {nx : Nat} {w : World} {P : Program}

/-! ### bytes found, bytes counted -/
noncomputable def idxByte (n c len : Nat) (k : Nat) : Option Nat :=
  @Nat.rec (fun _ => Option Nat) none (fun m ih => @Bool.rec (fun _ => Option Nat) ih (some (Nat.sub len (Nat.succ m))) (Nat.beq (byteAt n (Nat.sub len (Nat.succ m))) c)) k
theorem idxByte_succ (n c len m : Nat) : idxByte n c len (m + 1) = if byteAt n (len - (m + 1)) = c then some (len - (m + 1)) else idxByte n c len m := by
  show @Bool.rec (fun _ => Option Nat) (idxByte n c len m) (some (len - (m + 1))) (Nat.beq (byteAt n (len - (m + 1))) c) = _
  rw [beq_eq]
  by_cases h : byteAt n (len - (m + 1)) = c <;> simp [h]
theorem idxByte_spec (n c len : Nat) (p : Nat → Bool) (hp : ∀ i, i < len → p i = decide (byteAt n i = c)) : ∀ k, k ≤ len → idxByte n c len k = ((List.range len).drop (len - k)).find? p
  | 0, _ => by
    show none = _
    rw [Nat.sub_zero, List.drop_eq_nil_of_le (by simp)]; rfl
  | k + 1, hk => by
    rw [idxByte_succ]
    have : (List.range len).drop (len - (k + 1)) = (len - (k + 1)) :: (List.range len).drop (len - k) := by
      rw [List.drop_eq_getElem_cons (by simp; omega)]
      simp
      congr 1
      omega
    rw [this, List.find?_cons, hp _ (by omega), idxByte_spec n c len p hp k (by omega)]
    by_cases h : byteAt n (len - (k + 1)) = c <;> simp [h]

noncomputable def fIndexByte0 (x c : AV) : Option AV :=
  match x with
  | .str len n => match c with
    | .int .u8 c => match c with
      | .ofNat c => match Nat.blt c 256 with
        | true => match idxByte n c len len with
          | some i => some (.int .i64 (.ofNat i))
          | none => some (.int .i64 (-1))
        | false => none
      | .negSucc _ => none
    | _ => none
  | _ => none
theorem indexByte0_sound {x c r : AV} (hr : fIndexByte0 x c = some r) : (Extern.BytealgIndexByte.indexByte #[toV ρ x, toV ρ c]).run P w = .ok (toV ρ r) w ∧ okv ρ.d r := by
  unfold fIndexByte0 at hr
  split at hr
  · rename_i len n
    split at hr
    · split at hr
      · rename_i c
        split at hr
        · rename_i hc
          rw [blt_eq] at hc
          have hc := of_decide_eq_true hc
          have hrun := run_indexByte_string (P := P) (strOf len n) (c : Int) w
          have hp : ∀ i, i < len → ((strOf len n)[i]! == (c : Int).toNat.toUInt8) = decide (byteAt n i = c) := by
            intro i hi
            have hs : i < (strOf len n).size := by rw [strOf_size]; exact hi
            have hg : (strOf len n)[i]! = UInt8.ofNat (byteAt n i) := by
              have := strOf_get len n i hi
              rw [Go.ByteArray.getElem?_lt' _ _ hs] at this
              rw [getElem!_pos (strOf len n) i hs]
              simpa using this
            rw [hg, Bool.eq_iff_iff, beq_iff_eq, decide_eq_true_iff]
            have hb := byteAt_lt n i
            constructor
            · intro e
              have := congrArg UInt8.toNat e
              simp only [Int.toNat_natCast, UInt8.toNat_ofNat', Nat.toUInt8] at this
              rw [Nat.mod_eq_of_lt hb, Nat.mod_eq_of_lt hc] at this
              exact this
            · rintro rfl; rfl
          have hi := idxByte_spec n c len _ hp len (Nat.le_refl _)
          rw [Nat.sub_self, List.drop_zero] at hi
          have hf : firstIdx (strOf len n) (c : Int).toNat.toUInt8 = (match idxByte n c len len with | some i => (i : Int) | none => -1) := by
            unfold firstIdx
            rw [strOf_size, hi]
            cases (List.range len).find? _ <;> rfl
          show Sem.run P (Extern.BytealgIndexByte.indexByte #[.string (strOf len n), .int .u8 (c : Int)]) w = _ ∧ _
          rw [hrun, hf]
          split at hr <;> rename_i hh <;> (try rw [hh]) <;> simp only [Option.some.injEq] at hr <;> subst hr <;> exact ⟨rfl, trivial⟩
        · simp at hr
      · simp at hr
    · simp at hr
  · simp at hr


/-! ### bytes that need not be known -/
def byteT (x : AV) (i : Nat) : Option (Int × List LV) := match x with
  | .str _ n => some (.ofNat (byteAt n i), [])
  | .lstr _ c l => byteL c l i
  | _ => none
theorem byteT_spec {x : AV} {len i : Nat} {c b : Int} {l m : List LV} (hx : strV x = some (len, c, l)) (h : byteT x i = some (b, m)) (s : Nat → Int) : linV s b m = .ofNat (byteAt (linV s c l).toNat i) := by
  cases x <;> simp only [strV, Option.some.injEq, Prod.mk.injEq, reduceCtorEq] at hx
  · obtain ⟨rfl, rfl, rfl⟩ := hx
    simp only [byteT, Option.some.injEq, Prod.mk.injEq] at h
    obtain ⟨rfl, rfl⟩ := h
    rfl
  · obtain ⟨rfl, rfl, rfl⟩ := hx
    exact byteL_spec h s
/-- a byte that is looked for -/
def u8V (c : AV) : Option (Int × List LV) := match c with
  | .int .u8 c => match and (not (ltI c 0)) (ltI c 256) with
    | true => some (c, [])
    | false => none
  | .lint .u8 c l => match and (not (ltI (linMn c l) 0)) (ltI (linMx c l) 256) with
    | true => some (c, l)
    | false => none
  | _ => none
theorem u8V_spec {v : AV} {c : Int} {l : List LV} (h : u8V v = some (c, l)) (ρ : Ren) : ∃ n : Nat, n < 256 ∧ linV ρ.s c l = .ofNat n ∧ toV ρ v = .int .u8 (n : Int) := by
  unfold u8V at h
  split at h
  · split at h
    · rename_i e
      simp only [Option.some.injEq, Prod.mk.injEq] at h
      obtain ⟨rfl, rfl⟩ := h
      simp only [Bool.and_eq_true, Bool.not_eq_true', ltI_eq, decide_eq_false_iff_not, decide_eq_true_eq] at e
      rename_i c _
      obtain ⟨n, rfl⟩ := Int.eq_ofNat_of_zero_le (show 0 ≤ c by omega)
      exact ⟨n, by omega, rfl, rfl⟩
    · simp at h
  · split at h
    · rename_i e
      simp only [Option.some.injEq, Prod.mk.injEq] at h
      obtain ⟨rfl, rfl⟩ := h
      simp only [Bool.and_eq_true, Bool.not_eq_true', ltI_eq, decide_eq_false_iff_not, decide_eq_true_eq] at e
      rename_i c l _
      have a := lin_rng ρ.s c l
      obtain ⟨n, hn⟩ := Int.eq_ofNat_of_zero_le (show 0 ≤ linV ρ.s c l by omega)
      exact ⟨n, by omega, hn, by simp only [toV, hn]⟩
    · simp at h
  · simp at h
def subC (b c : Int) : Int := Int.add b (Int.mul (-1) c)
def subM (m l : List LV) : List LV := addL m (mulL (-1) l)
noncomputable def idxL (x : AV) (c : Int) (l : List LV) (len k : Nat) : Option (Option Nat) :=
  @Nat.rec (fun _ => Option (Option Nat)) (some none) (fun m ih => match byteT x (Nat.sub len (Nat.succ m)) with
    | some (b, q) => match eq0L (subC b c) (subM q l) with
      | some true => some (some (Nat.sub len (Nat.succ m)))
      | some false => ih
      | none => none
    | none => none) k
theorem eq0B_spec {x : AV} {len i : Nat} {c cx b : Int} {l lx q : List LV} (hx : strV x = some (len, cx, lx)) (hb : byteT x i = some (b, q)) {r : Bool} (he : eq0L (subC b c) (subM q l) = some r) (s : Nat → Int) {cv : Nat}
    (hc : linV s c l = .ofNat cv) : decide (byteAt (linV s cx lx).toNat i = cv) = r := by
  have h1 := eq0L_spec he s
  have h2 : linV s (subC b c) (subM q l) = linV s b q - linV s c l := linV_sub s b c q l
  rw [h2, byteT_spec hx hb s, hc] at h1
  rw [← h1]
  have : (Int.ofNat (byteAt (linV s cx lx).toNat i) - Int.ofNat cv = 0) ↔ (byteAt (linV s cx lx).toNat i = cv) := by
    show (((byteAt (linV s cx lx).toNat i : Nat) : Int) - ((cv : Nat) : Int) = 0) ↔ _
    omega
  simp only [this]
theorem idxL_spec {x : AV} {len0 : Nat} {c cx : Int} {l lx : List LV} (hx : strV x = some (len0, cx, lx)) (s : Nat → Int) {cv : Nat} (hc : linV s c l = .ofNat cv) {len : Nat} : ∀ {k : Nat} {r : Option Nat}, idxL x c l len k = some r →
    idxByte (linV s cx lx).toNat cv len k = r
  | 0, r, h => by
    have h : (some none : Option (Option Nat)) = some r := h
    simp only [Option.some.injEq] at h
    exact h
  | k + 1, r, h => by
    have h : (match byteT x (len - (k + 1)) with
    | some (b, q) => match eq0L (subC b c) (subM q l) with
      | some true => some (some (len - (k + 1)))
      | some false => idxL x c l len k
      | none => none
    | none => none) = some r := h
    rw [idxByte_succ]
    split at h <;> try (simp at h; done)
    rename_i b q hb
    split at h <;> try (simp at h; done)
    · rename_i he
      simp only [Option.some.injEq] at h; subst h
      rw [if_pos (of_decide_eq_true (eq0B_spec hx hb he s hc))]
    · rename_i he
      rw [if_neg (of_decide_eq_false (eq0B_spec hx hb he s hc))]
      exact idxL_spec hx s hc h
noncomputable def fIndexL (x c : AV) : Option AV := match strV x with
  | some (len, _, _) => match u8V c with
    | some (q, m) => match idxL x q m len len with
      | some (some i) => some (.int .i64 (.ofNat i))
      | some none => some (.int .i64 (-1))
      | none => none
    | none => none
  | none => none
theorem index_run (len n c : Nat) (hc : c < 256) : (Extern.BytealgIndexByte.indexByte #[.string (strOf len n), .int .u8 (c : Int)]).run P w = .ok (.int .i64 (match idxByte n c len len with | some i => (i : Int) | none => -1)) w := by
  have hrun := run_indexByte_string (P := P) (strOf len n) (c : Int) w
  have hp : ∀ i, i < len → ((strOf len n)[i]! == (c : Int).toNat.toUInt8) = decide (byteAt n i = c) := by
    intro i hi
    have hs : i < (strOf len n).size := by rw [strOf_size]; exact hi
    have hg : (strOf len n)[i]! = UInt8.ofNat (byteAt n i) := by
      have := strOf_get len n i hi
      rw [Go.ByteArray.getElem?_lt' _ _ hs] at this
      rw [getElem!_pos (strOf len n) i hs]
      simpa using this
    rw [hg, Bool.eq_iff_iff, beq_iff_eq, decide_eq_true_iff]
    have hb := byteAt_lt n i
    constructor
    · intro e
      have := congrArg UInt8.toNat e
      simp only [Int.toNat_natCast, UInt8.toNat_ofNat', Nat.toUInt8] at this
      rw [Nat.mod_eq_of_lt hb, Nat.mod_eq_of_lt hc] at this
      exact this
    · rintro rfl; rfl
  have hi := idxByte_spec n c len _ hp len (Nat.le_refl _)
  rw [Nat.sub_self, List.drop_zero] at hi
  have hf : firstIdx (strOf len n) (c : Int).toNat.toUInt8 = (match idxByte n c len len with | some i => (i : Int) | none => -1) := by
    unfold firstIdx
    rw [strOf_size, hi]
    cases (List.range len).find? _ <;> rfl
  rw [hrun, hf]
noncomputable def fIndexByte (x c : AV) : Option AV := match fIndexByte0 x c with
  | some r => some r
  | none => fIndexL x c
theorem indexByte_sound {x c r : AV} (hx : okv ρ.d x) (hr : fIndexByte x c = some r) : (Extern.BytealgIndexByte.indexByte #[toV ρ x, toV ρ c]).run P w = .ok (toV ρ r) w ∧ okv ρ.d r := by
  unfold fIndexByte at hr
  split at hr
  · rename_i r' hr'
    simp only [Option.some.injEq] at hr; subst hr
    exact indexByte0_sound hr'
  · unfold fIndexL at hr
    split at hr <;> try (simp at hr; done)
    rename_i len cx lx hsx
    split at hr <;> try (simp at hr; done)
    rename_i q m hu
    obtain ⟨cv, hcv, c1, c2⟩ := u8V_spec hu ρ
    obtain ⟨x1, _⟩ := strV_spec hsx ρ hx
    rw [x1, c2, index_run _ _ _ hcv]
    split at hr <;> try (simp at hr; done)
    · rename_i i hi
      simp only [Option.some.injEq] at hr; subst hr
      rw [idxL_spec hsx ρ.s c1 hi]
      exact ⟨rfl, trivial⟩
    · rename_i hi
      simp only [Option.some.injEq] at hr; subst hr
      rw [idxL_spec hsx ρ.s c1 hi]
      exact ⟨rfl, trivial⟩

theorem foldlM_loop {β : Type} (f : β → UInt8 → β) (s : ByteArray) (h : s.size ≤ s.size) : ∀ (i j : Nat) (b : β), i + j = s.size →
    ByteArray.foldlM.loop (m := _root_.Id) (fun b x => pure (f b x)) s s.size h i j b = (s.data.toList.drop j).foldl f b
  | 0, j, b, hij => by
    have : j = s.size := by omega
    subst this
    unfold ByteArray.foldlM.loop
    simp only [Nat.lt_irrefl, dite_false]
    rw [List.drop_eq_nil_of_le (by rw [Array.length_toList]; exact Nat.le_refl _)]; rfl
  | i + 1, j, b, hij => by
    have hj : j < s.size := by omega
    unfold ByteArray.foldlM.loop
    simp only [hj, dite_true]
    rw [List.drop_eq_getElem_cons (by rw [Array.length_toList]; exact hj), List.foldl_cons]
    exact foldlM_loop f s h i (j + 1) (f b s[j]) (by omega)
theorem foldl_int (cb : UInt8) : ∀ (l : List UInt8) (r : Nat), l.foldl (fun (n : Int) x => if (x == cb) = true then n + 1 else n) (r : Int) = ((l.foldl (fun n x => if (x == cb) = true then n + 1 else n) r : Nat) : Int)
  | [], _ => rfl
  | b :: l, r => by
    simp only [List.foldl_cons]
    by_cases h : (b == cb) = true
    · simp only [h, if_true]; exact foldl_int cb l (r + 1)
    · simp only [h]; exact foldl_int cb l r
theorem foldl_bytes {β : Type} (f : β → UInt8 → β) (b0 : β) (s : ByteArray) : s.foldl f b0 = s.data.toList.foldl f b0 := by
  unfold ByteArray.foldl ByteArray.foldlM
  simp only [Nat.le_refl, dite_true, Nat.sub_zero]
  have := foldlM_loop f s (Nat.le_refl _) s.size 0 b0 (by omega)
  rw [List.drop_zero] at this
  exact this

noncomputable def cntByte (c : Nat) (k : Nat) : Nat → Nat → Nat :=
  @Nat.rec (fun _ => Nat → Nat → Nat) (fun _ r => r) (fun _ ih n r => ih (Nat.div n 256) (@Bool.rec (fun _ => Nat) r (Nat.succ r) (Nat.beq (Nat.mod n 256) c))) k
theorem cntByte_spec (c : Nat) (cb : UInt8) (hc : cb.toNat = c) : ∀ (k n r : Nat), cntByte c k n r = (bytesOf k n).foldl (fun n x => if x == cb then n + 1 else n) r
  | 0, _, _ => rfl
  | k + 1, n, r => by
    have : cntByte c (k + 1) n r = cntByte c k (n / 256) (if n % 256 = c then r + 1 else r) := by
      show cntByte c k (n / 256) (@Bool.rec (fun _ => Nat) r (r + 1) (Nat.beq (n % 256) c)) = _
      rw [beq_eq]
      by_cases h : n % 256 = c <;> simp [h]
    rw [this, cntByte_spec c cb hc k]
    simp only [bytesOf, List.foldl_cons]
    congr 1
    have e : (UInt8.ofNat (n % 256) == cb) = decide (n % 256 = c) := by
      rw [Bool.eq_iff_iff, beq_iff_eq, decide_eq_true_iff, ← hc]
      constructor
      · intro e; rw [← e, UInt8.toNat_ofNat']; omega
      · intro e; rw [e]; simp
    rw [e]
    by_cases h : n % 256 = c <;> simp [h]
noncomputable def fCountByte0 (x c : AV) : Option AV :=
  match x with
  | .str len n => match c with
    | .int .u8 c => match c with
      | .ofNat c => match Nat.blt c 256 with
        | true => some (.int .i64 (.ofNat (cntByte c len n 0)))
        | false => none
      | .negSucc _ => none
    | _ => none
  | _ => none
theorem countByte0_sound {x c r : AV} (hr : fCountByte0 x c = some r) : (Extern.BytealgCount.count #[toV ρ x, toV ρ c]).run P w = .ok (toV ρ r) w ∧ okv ρ.d r := by
  unfold fCountByte0 at hr
  split at hr
  · rename_i len n
    split at hr
    · split at hr
      · rename_i c
        split at hr
        · rename_i hc
          rw [blt_eq] at hc
          have hc := of_decide_eq_true hc
          simp only [Option.some.injEq] at hr; subst hr
          refine ⟨?_, trivial⟩
          change Sem.run P (do
            let b ← Extern.Bytes.bytesOf (.string (strOf len n))
            let c' ← Extern.Bytes.asByte (.int .u8 (c : Int))
            pure (goInt (b.foldl (fun n x => if x == c' then n + 1 else n) (0 : Nat)))) w = _
          simp only [Extern.Bytes.bytesOf, Extern.Bytes.asByte, Sem.run_bind, Sem.run_pure, Result.andThen_ok, toV, goInt]
          congr 2
          rw [cntByte_spec c ((c : Int).toNat.toUInt8) (by simp [Nat.toUInt8]; omega)]
          simp only [Int.ofNat_eq_natCast]
          congr 1
          rw [foldl_bytes]
          exact foldl_int _ _ 0
        · simp at hr
      · simp at hr
    · simp at hr
  · simp at hr
def cntL (x : AV) (c : Int) (l : List LV) : Nat → Nat → Nat → Option Nat
  | 0, _, r => some r
  | k + 1, i, r => match byteT x i with
    | some (b, q) => match eq0L (subC b c) (subM q l) with
      | some true => cntL x c l k (Nat.succ i) (Nat.succ r)
      | some false => cntL x c l k (Nat.succ i) r
      | none => none
    | none => none
theorem cntByte_succ (c k n r : Nat) : cntByte c (k + 1) n r = cntByte c k (n / 256) (if n % 256 = c then r + 1 else r) := by
  show cntByte c k (n / 256) (@Bool.rec (fun _ => Nat) r (r + 1) (Nat.beq (n % 256) c)) = _
  rw [beq_eq]
  by_cases h : n % 256 = c <;> simp [h]
theorem cntL_spec {x : AV} {len0 : Nat} {c cx : Int} {l lx : List LV} (hx : strV x = some (len0, cx, lx)) (s : Nat → Int) {cv : Nat} (hc : linV s c l = .ofNat cv) : ∀ {k i r r' : Nat}, cntL x c l k i r = some r' →
    cntByte cv k ((linV s cx lx).toNat >>> (8 * i)) r = r'
  | 0, i, r, r', h => by
    simp only [cntL, Option.some.injEq] at h
    exact h
  | k + 1, i, r, r', h => by
    simp only [cntL] at h
    rw [cntByte_succ, shr8']
    split at h <;> try (simp at h; done)
    rename_i b q hb
    split at h <;> try (simp at h; done)
    · rename_i he
      have : (linV s cx lx).toNat >>> (8 * i) % 256 = cv := of_decide_eq_true (eq0B_spec hx hb he s hc)
      rw [if_pos this]
      exact cntL_spec hx s hc h
    · rename_i he
      have : ¬ (linV s cx lx).toNat >>> (8 * i) % 256 = cv := of_decide_eq_false (eq0B_spec hx hb he s hc)
      rw [if_neg this]
      exact cntL_spec hx s hc h
noncomputable def fCountL (x c : AV) : Option AV := match strV x with
  | some (len, _, _) => match u8V c with
    | some (q, m) => match cntL x q m len 0 0 with
      | some r => some (.int .i64 (.ofNat r))
      | none => none
    | none => none
  | none => none
noncomputable def fCountByte (x c : AV) : Option AV := match fCountByte0 x c with
  | some r => some r
  | none => fCountL x c
theorem countByte_sound {x c r : AV} (hx : okv ρ.d x) (hr : fCountByte x c = some r) : (Extern.BytealgCount.count #[toV ρ x, toV ρ c]).run P w = .ok (toV ρ r) w ∧ okv ρ.d r := by
  unfold fCountByte at hr
  split at hr
  · rename_i r' hr'
    simp only [Option.some.injEq] at hr; subst hr
    exact countByte0_sound hr'
  · unfold fCountL at hr
    split at hr <;> try (simp at hr; done)
    rename_i len cx lx hsx
    split at hr <;> try (simp at hr; done)
    rename_i q m hu
    obtain ⟨cv, hcv, c1, c2⟩ := u8V_spec hu ρ
    obtain ⟨x1, _⟩ := strV_spec hsx ρ hx
    split at hr <;> try (simp at hr; done)
    rename_i r' hi
    simp only [Option.some.injEq] at hr; subst hr
    have h0 := cntL_spec hsx ρ.s c1 hi
    simp only [Nat.mul_zero, Nat.shiftRight_zero] at h0
    have key := (countByte0_sound (P := P) (w := w) (ρ := ρ) (x := .str len (linV ρ.s cx lx).toNat) (c := .int .u8 (.ofNat cv)) (r := .int .i64 (.ofNat r')) (by
      simp only [fCountByte0, blt_eq, decide_eq_true hcv, h0])).1
    refine ⟨?_, trivial⟩
    rw [x1, c2]
    exact key

end
end Go.Vai
