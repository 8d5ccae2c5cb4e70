/- unsafe.String; the library's functions without a body. -/
import Derived.Test.YtjkpgkmhkgngpaaGreatDoorVaiL
import Derived.Laws.Externs
namespace Go.Vai
open Go.RowKit

section
variable {G : Nat} {w0 : Base} {ρ : Ren} {h : Hp} {nx : Nat} {w : World} {P : Program}

/-! ### unsafe.String -/
theorem run_loadBytes (g : Nat) : ∀ (l : List UInt8) (o : Nat) (acc : ByteArray), (∀ j (hj : j < l.length), w.cell? ⟨g, o + j, none⟩ = some (.int .u8 (l[j].toNat : Int))) →
    (loadBytes ⟨g, o, none⟩ acc l.length).run P w = .ok ⟨acc.data ++ l.toArray⟩ w
  | [], o, acc, _ => by simp [loadBytes]
  | b :: l, o, acc, hc => by
    have h0 := hc 0 (by simp)
    rw [Nat.add_zero] at h0
    have ih := run_loadBytes g l (o + 1) (acc.push b) (fun j hj => by
      have := hc (j + 1) (by simpa using hj)
      rw [show o + 1 + j = o + (j + 1) by omega]
      simpa using this)
    simp only [List.length_cons, loadBytes, Sem.run_bind, run_load, h0, Result.andThen_ok, List.getElem_cons_zero, add_off]
    have e : (Int.toNat (b.toNat : Int)).toUInt8 = b := by simp
    rw [e, ih]
    simp [ByteArray.push]

def Fz.ice : Fz → Nat → Nat → Option Fz
  | .none, o, n => some (.range o (Nat.add o n))
  | .range lo hi, o, n => some (.range (minN lo o) (match Nat.ble hi (Nat.add o n) with | true => Nat.add o n | false => hi))
  | .mark, _, _ => Option.none

noncomputable def fUnsafeString (G u : Nat) (h : Hp) (p n : AV) : Option (AV × Hp) :=
  match n with
  | .int _ n => match n with
    | .ofNat n => match n with
      | 0 => match p with
        | .nilp => some (.str 0 0, h)
        | .ptr _ _ => some (.str 0 0, h)
        | _ => none
      | n + 1 => match Nat.ble (n + 1) 1000000 with
        | true => match p with
          | .ptr b o => match h.get b with
            | some (.cells c nb ty fz opn) => match and (Nat.ble G b) (Nat.beq ty u) with
              | true => match rdCells h b o (n + 1) with
                | some l => match bytesNat l with
                  | some q => match fz.ice o (n + 1) with
                    | some fz' => some (.str (n + 1) q, h.set b (.cells c nb ty fz' opn))
                    | none => none
                  | none => none
                | none => none
              | false => none
            | _ => none
          | _ => none
        | false => none
    | .negSucc _ => none
  | _ => none

theorem unsafeString_eq (tys : Array TypeId) (ty : TypeId) (p : Option Addr) (len_ : Value) : Builtin.unsafeString_ tys ty #[.pointer p, len_] = (do
  let n ← asInt len_
  let some pt := tys[0]? | stuck "unsafe.String: no argument types"
  if n < 0 then runtimePanic (.error "unsafe.String: len out of range")
  if n > IntKind.i64.max then unsupported (.unsafePointer "String: a length above the largest int")
  match p with
  | none =>
    if n = 0 then pure (.string .empty)
    else runtimePanic (.error "unsafe.String: ptr is nil and len is not zero")
  | some a =>
    if n = 0 then pure (.string .empty)
    else if ← variablesAt a (← elemOf pt) n.toNat then do
      let s ← loadBytes a .empty n.toNat
      freeze a n.toNat
      pure (.string s)
    else unsupported (.unsafePointer "String: not so many bytes at ptr")) := rfl

theorem rdCells_le {h : Hp} {b o k : Nat} {l : List AV} {c : Trie AV} {n ty : Nat} {fz : Fz} {opn : Nat} (hg : h.get b = some (.cells c n ty fz opn)) (hr : rdCells h b o k = some l) : o + k ≤ n := by
  unfold rdCells at hr
  rw [hg] at hr
  simp only at hr
  split at hr
  · rename_i hb; exact Nat.le_of_ble_eq_true hb
  · simp at hr

theorem unsafeString_sound (H : HRel G w0 ρ h nx w) {tys : Array TypeId} {pt u ty : TypeId} {j : TypeInfo} {p n v : AV} {h' : Hp} (h0 : tys[0]? = some pt) (hp : P.underlying pt = some (.pointer u)) (hj : P.info? u = some j) (hj1 : j.size = 1)
    (hv : okv ρ.d p) (hr : fUnsafeString G u h p n = some (v, h')) :
    EffAt P G w0 ρ h nx w (Builtin.unsafeString_ tys ty #[toV ρ p, toV ρ n]) v h' nx := by
  unfold fUnsafeString at hr
  split at hr
  · rename_i kn n
    split at hr
    · rename_i n
      split at hr
      · have hz : (p = .nilp ∨ ∃ b o, p = .ptr b o) ∧ v = .str 0 0 ∧ h' = h := by
          cases p <;> simp at hr <;> simp_all
        obtain ⟨hp', rfl, rfl⟩ := hz
        refine ⟨ρ, w, ?_, by simp [okv], H, Ext.refl _ _ _⟩
        have e0 : (ByteArray.empty : ByteArray) = strOf 0 0 := rfl
        rcases hp' with rfl | ⟨b, o, rfl⟩ <;> simp only [toV, unsafeString_eq] <;> simp [asInt, asIntOf, e0, h0]
      · rename_i n
        split at hr
        · rename_i hn
          have hn := Nat.le_of_ble_eq_true hn
          split at hr
          · rename_i b o
            split at hr
            · rename_i c nb ty' fz opn hg
              split at hr
              · rename_i hb
                simp only [Bool.and_eq_true, Nat.beq_eq] at hb
                obtain ⟨hG, rfl⟩ := hb
                have hG : G ≤ b := Nat.le_of_ble_eq_true hG
                split at hr
                · rename_i l hl
                  split at hr
                  · rename_i q hq
                    split at hr
                    · rename_i fz' hfz
                      simp only [Option.some.injEq, Prod.mk.injEq] at hr
                      obtain ⟨rfl, rfl⟩ := hr
                      obtain ⟨r1, r2, r3⟩ := rd_sound H hv hl
                      have hle := rdCells_le hg hl
                      obtain ⟨b1, b2⟩ := bytesNat_spec (ρ := ρ) l q hq
                      rw [r2] at b1 b2
                      obtain ⟨cs, fr, hx, k1, kk, k3, k4⟩ := H.cells hv hg
                      have hle2 : o + (n + 1) ≤ cs.size := by omega
                      have sh : w.shape? (ρ.m b) = some (ty', cs.size) := by simp [World.shape?, hx]
                      have hc1 : P.cellsOf ty' = 1 := by simp [Program.cellsOf, hj, hj1]
                      have hlies : liesAt P P.depth ty' (cs.size / P.cellsOf ty') o ty' (n + 1) = true := by
                        rw [hc1, Nat.div_one]
                        have hd : ∃ d, P.depth = d + 1 := ⟨_, rfl⟩
                        obtain ⟨d, hd⟩ := hd
                        rw [hd]
                        simp only [liesAt]
                        rw [hd]
                        simp [rowAt, hc1, sameLayout, Nat.mod_one, hle2]
                      have hload := run_loadBytes (P := P) (w := w) (ρ.m b) (bytesOf (n + 1) q) o .empty (by
                        intro jj hjj
                        have := r3 jj (.int .u8 ((bytesOf (n + 1) q)[jj].toNat : Int)) (by rw [b2, List.getElem?_map, List.getElem?_eq_getElem hjj]; rfl)
                        rwa [add_off] at this)
                      rw [bytesOf_length] at hload
                      have hstr : (⟨ByteArray.empty.data ++ (bytesOf (n + 1) q).toArray⟩ : ByteArray) = strOf (n + 1) q := by
                        apply ByteArray.ext
                        simp [strOf]
                      rw [hstr] at hload
                      -- the freeze
                      have hlt : ρ.m b < w.heap.size := (Array.getElem?_eq_some_iff.1 hx).1
                      have hu : UpdAt w (w.freeze ⟨ρ.m b, o, none⟩ (n + 1)) (ρ.m b)
                          (.cells cs ty' (if fr.1 == fr.2 then (o, o + (n + 1)) else (min fr.1 o, max fr.2 (o + (n + 1))))) := by
                        unfold World.freeze
                        rw [if_neg (by omega)]
                        refine ⟨rfl, rfl, rfl, by simp, ?_, fun k hk => ?_⟩
                        · simp [Array.getElem?_modify, hx]
                        · simp [Array.getElem?_modify, Ne.symm hk]
                      have hrel : ORel ρ (ρ.e b) (.cells c nb ty' fz' opn) (.cells cs ty' (if fr.1 == fr.2 then (o, o + (n + 1)) else (min fr.1 o, max fr.2 (o + (n + 1))))) := by
                        refine ⟨cs, _, rfl, k1, kk, ?_, k4⟩
                        cases fz with
                        | none =>
                          have hfr : fr.1 = fr.2 := k3
                          simp only [Fz.ice, Option.some.injEq] at hfz; subst hfz
                          rw [if_pos (by simpa using hfr)]
                          exact ⟨rfl, by show o < o + (n + 1); omega⟩
                        | mark => simp [Fz.ice] at hfz
                        | range lo hi =>
                          obtain ⟨rfl, hlh⟩ := k3
                          simp only [Fz.ice, minN_eq, Option.some.injEq] at hfz; subst hfz
                          rw [if_neg (by simp; omega)]
                          have hmx : (match Nat.ble hi (Nat.add o (n + 1)) with | true => Nat.add o (n + 1) | false => hi) = max hi (o + (n + 1)) := by
                            rw [ble_eq]
                            by_cases hh : hi ≤ o + (n + 1)
                            · have : decide (hi ≤ Nat.add o (n + 1)) = true := decide_eq_true hh
                              rw [this]; show o + (n + 1) = _; omega
                            · have : decide (hi ≤ Nat.add o (n + 1)) = false := decide_eq_false hh
                              rw [this]; show hi = _; omega
                          rw [hmx]
                          exact ⟨rfl, by omega⟩
                      obtain ⟨H', E⟩ := H.upd hg hv hG hu hrel
                      refine ⟨ρ, _, ?_, b1, H', E⟩
                      have e1 : ¬ (((n + 1 : Nat) : Int) < 0) := by omega
                      have e2 : ¬ (((n + 1 : Nat) : Int) > IntKind.i64.max) := by
                        have : IntKind.i64.max = 9223372036854775807 := rfl
                        rw [this]; omega
                      have e3 : ¬ (((n + 1 : Nat) : Int) = 0) := by omega
                      have hva : (variablesAt ⟨ρ.m b, o, none⟩ ty' (n + 1)).run P w = .ok true w := by simp [variablesAt, sh, hlies]
                      have hel : (elemOf pt).run P w = .ok ty' w := by simp [elemOf, run_underlying hp]
                      show (Builtin.unsafeString_ tys ty #[.pointer (some ⟨ρ.m b, o, none⟩), .int kn ((n + 1 : Nat) : Int)]).run P w = _
                      rw [unsafeString_eq]
                      simp only [asInt, asIntOf, Sem.run_bind, Sem.run_pure, Result.andThen_ok, h0, if_neg e1, if_neg e2, if_neg e3, hel, Int.toNat_natCast, hva, if_true, hload, run_freeze]
                      rfl
                    · simp at hr
                  · simp at hr
                · simp at hr
              · simp at hr
            · simp at hr
          · simp at hr
        · simp at hr
    · simp at hr
  · simp at hr

end
end Go.Vai
