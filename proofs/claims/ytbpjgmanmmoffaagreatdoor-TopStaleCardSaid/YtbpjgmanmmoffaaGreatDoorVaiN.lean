/- The library's functions without a body, by name. -/
import Derived.Test.YtbpjgmanmmoffaaGreatDoorVaiM
import Derived.KernelRfl
namespace Go.Vai
open Go.RowKit

section
variable {G : Nat} {w0 : Base} {ρ : Ren} {h : Hp} {nx : Nat} {w : World} {P : Program}

/-! ### bytes found, bytes counted -/
noncomputable def idxByte (n c len : Nat) (k : Nat) : Option Nat :=
  @Nat.rec (fun _ => Option Nat) none (fun m ih => @Bool.rec (fun _ => Option Nat) ih (some (Nat.sub len (Nat.succ m))) (Nat.beq (byteAt n (Nat.sub len (Nat.succ m))) c)) k
theorem idxByte_succ (n c len m : Nat) : idxByte n c len (m + 1) = if byteAt n (len - (m + 1)) = c then some (len - (m + 1)) else idxByte n c len m := by
  show @Bool.rec (fun _ => Option Nat) (idxByte n c len m) (some (len - (m + 1))) (Nat.beq (byteAt n (len - (m + 1))) c) = _
  rw [beq_eq]
  by_cases h : byteAt n (len - (m + 1)) = c <;> simp [h]
theorem idxByte_spec (n c len : Nat) (p : Nat → Bool) (hp : ∀ i, i < len → p i = decide (byteAt n i = c)) : ∀ k, k ≤ len → idxByte n c len k = ((List.range len).drop (len - k)).find? p
  | 0, _ => by
    show none = _
    rw [Nat.sub_zero, List.drop_eq_nil_of_le (by simp)]; rfl
  | k + 1, hk => by
    rw [idxByte_succ]
    have : (List.range len).drop (len - (k + 1)) = (len - (k + 1)) :: (List.range len).drop (len - k) := by
      rw [List.drop_eq_getElem_cons (by simp; omega)]
      simp
      congr 1
      omega
    rw [this, List.find?_cons, hp _ (by omega), idxByte_spec n c len p hp k (by omega)]
    by_cases h : byteAt n (len - (k + 1)) = c <;> simp [h]

noncomputable def fIndexByte (x c : AV) : Option AV :=
  match x with
  | .str len n => match c with
    | .int .u8 c => match c with
      | .ofNat c => match Nat.blt c 256 with
        | true => match idxByte n c len len with
          | some i => some (.int .i64 (.ofNat i))
          | none => some (.int .i64 (-1))
        | false => none
      | .negSucc _ => none
    | _ => none
  | _ => none
theorem indexByte_sound {x c r : AV} (hr : fIndexByte x c = some r) : (Extern.BytealgIndexByte.indexByte #[toV ρ x, toV ρ c]).run P w = .ok (toV ρ r) w ∧ okv ρ.d r := by
  unfold fIndexByte at hr
  split at hr
  · rename_i len n
    split at hr
    · split at hr
      · rename_i c
        split at hr
        · rename_i hc
          rw [blt_eq] at hc
          have hc := of_decide_eq_true hc
          have hrun := run_indexByte_string (P := P) (strOf len n) (c : Int) w
          have hp : ∀ i, i < len → ((strOf len n)[i]! == (c : Int).toNat.toUInt8) = decide (byteAt n i = c) := by
            intro i hi
            have hs : i < (strOf len n).size := by rw [strOf_size]; exact hi
            have hg : (strOf len n)[i]! = UInt8.ofNat (byteAt n i) := by
              have := strOf_get len n i hi
              rw [Go.ByteArray.getElem?_lt' _ _ hs] at this
              rw [getElem!_pos (strOf len n) i hs]
              simpa using this
            rw [hg, Bool.eq_iff_iff, beq_iff_eq, decide_eq_true_iff]
            have hb := byteAt_lt n i
            constructor
            · intro e
              have := congrArg UInt8.toNat e
              simp only [Int.toNat_natCast, UInt8.toNat_ofNat', Nat.toUInt8] at this
              rw [Nat.mod_eq_of_lt hb, Nat.mod_eq_of_lt hc] at this
              exact this
            · rintro rfl; rfl
          have hi := idxByte_spec n c len _ hp len (Nat.le_refl _)
          rw [Nat.sub_self, List.drop_zero] at hi
          have hf : firstIdx (strOf len n) (c : Int).toNat.toUInt8 = (match idxByte n c len len with | some i => (i : Int) | none => -1) := by
            unfold firstIdx
            rw [strOf_size, hi]
            cases (List.range len).find? _ <;> rfl
          show Sem.run P (Extern.BytealgIndexByte.indexByte #[.string (strOf len n), .int .u8 (c : Int)]) w = _ ∧ _
          rw [hrun, hf]
          split at hr <;> rename_i hh <;> (try rw [hh]) <;> simp only [Option.some.injEq] at hr <;> subst hr <;> exact ⟨rfl, trivial⟩
        · simp at hr
      · simp at hr
    · simp at hr
  · simp at hr

theorem foldlM_loop {β : Type} (f : β → UInt8 → β) (s : ByteArray) (h : s.size ≤ s.size) : ∀ (i j : Nat) (b : β), i + j = s.size →
    ByteArray.foldlM.loop (m := _root_.Id) (fun b x => pure (f b x)) s s.size h i j b = (s.data.toList.drop j).foldl f b
  | 0, j, b, hij => by
    have : j = s.size := by omega
    subst this
    unfold ByteArray.foldlM.loop
    simp only [Nat.lt_irrefl, dite_false]
    rw [List.drop_eq_nil_of_le (by rw [Array.length_toList]; exact Nat.le_refl _)]; rfl
  | i + 1, j, b, hij => by
    have hj : j < s.size := by omega
    unfold ByteArray.foldlM.loop
    simp only [hj, dite_true]
    rw [List.drop_eq_getElem_cons (by rw [Array.length_toList]; exact hj), List.foldl_cons]
    exact foldlM_loop f s h i (j + 1) (f b s[j]) (by omega)
theorem foldl_int (cb : UInt8) : ∀ (l : List UInt8) (r : Nat), l.foldl (fun (n : Int) x => if (x == cb) = true then n + 1 else n) (r : Int) = ((l.foldl (fun n x => if (x == cb) = true then n + 1 else n) r : Nat) : Int)
  | [], _ => rfl
  | b :: l, r => by
    simp only [List.foldl_cons]
    by_cases h : (b == cb) = true
    · simp only [h, if_true]; exact foldl_int cb l (r + 1)
    · simp only [h]; exact foldl_int cb l r
theorem foldl_bytes {β : Type} (f : β → UInt8 → β) (b0 : β) (s : ByteArray) : s.foldl f b0 = s.data.toList.foldl f b0 := by
  unfold ByteArray.foldl ByteArray.foldlM
  simp only [Nat.le_refl, dite_true, Nat.sub_zero]
  have := foldlM_loop f s (Nat.le_refl _) s.size 0 b0 (by omega)
  rw [List.drop_zero] at this
  exact this

noncomputable def cntByte (c : Nat) (k : Nat) : Nat → Nat → Nat :=
  @Nat.rec (fun _ => Nat → Nat → Nat) (fun _ r => r) (fun _ ih n r => ih (Nat.div n 256) (@Bool.rec (fun _ => Nat) r (Nat.succ r) (Nat.beq (Nat.mod n 256) c))) k
theorem cntByte_spec (c : Nat) (cb : UInt8) (hc : cb.toNat = c) : ∀ (k n r : Nat), cntByte c k n r = (bytesOf k n).foldl (fun n x => if x == cb then n + 1 else n) r
  | 0, _, _ => rfl
  | k + 1, n, r => by
    have : cntByte c (k + 1) n r = cntByte c k (n / 256) (if n % 256 = c then r + 1 else r) := by
      show cntByte c k (n / 256) (@Bool.rec (fun _ => Nat) r (r + 1) (Nat.beq (n % 256) c)) = _
      rw [beq_eq]
      by_cases h : n % 256 = c <;> simp [h]
    rw [this, cntByte_spec c cb hc k]
    simp only [bytesOf, List.foldl_cons]
    congr 1
    have e : (UInt8.ofNat (n % 256) == cb) = decide (n % 256 = c) := by
      rw [Bool.eq_iff_iff, beq_iff_eq, decide_eq_true_iff, ← hc]
      constructor
      · intro e; rw [← e, UInt8.toNat_ofNat']; omega
      · intro e; rw [e]; simp
    rw [e]
    by_cases h : n % 256 = c <;> simp [h]
noncomputable def fCountByte (x c : AV) : Option AV :=
  match x with
  | .str len n => match c with
    | .int .u8 c => match c with
      | .ofNat c => match Nat.blt c 256 with
        | true => some (.int .i64 (.ofNat (cntByte c len n 0)))
        | false => none
      | .negSucc _ => none
    | _ => none
  | _ => none
theorem countByte_sound {x c r : AV} (hr : fCountByte x c = some r) : (Extern.BytealgCount.count #[toV ρ x, toV ρ c]).run P w = .ok (toV ρ r) w ∧ okv ρ.d r := by
  unfold fCountByte at hr
  split at hr
  · rename_i len n
    split at hr
    · split at hr
      · rename_i c
        split at hr
        · rename_i hc
          rw [blt_eq] at hc
          have hc := of_decide_eq_true hc
          simp only [Option.some.injEq] at hr; subst hr
          refine ⟨?_, trivial⟩
          change Sem.run P (do
            let b ← Extern.Bytes.bytesOf (.string (strOf len n))
            let c' ← Extern.Bytes.asByte (.int .u8 (c : Int))
            pure (goInt (b.foldl (fun n x => if x == c' then n + 1 else n) (0 : Nat)))) w = _
          simp only [Extern.Bytes.bytesOf, Extern.Bytes.asByte, Sem.run_bind, Sem.run_pure, Result.andThen_ok, toV, goInt]
          congr 2
          rw [cntByte_spec c ((c : Int).toNat.toUInt8) (by simp [Nat.toUInt8]; omega)]
          simp only [Int.ofNat_eq_natCast]
          congr 1
          rw [foldl_bytes]
          exact foldl_int _ _ 0
        · simp at hr
      · simp at hr
    · simp at hr
  · simp at hr
end
end Go.Vai
