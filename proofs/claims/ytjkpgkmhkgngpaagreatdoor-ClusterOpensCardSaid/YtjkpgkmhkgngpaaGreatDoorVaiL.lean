/- copy, next, unsafe.String, atomics, bytes found. -/
import Derived.Test.YtjkpgkmhkgngpaaGreatDoorVaiK
import Derived.Laws.RangeString
namespace Go.Vai
open Go.RowKit

section
variable {G : Nat} {w0 : Base} {ρ : Ren} {h : Hp} {nx : Nat} {w : World} {P : Program}

/-! ### copy -/
noncomputable def fCopy (G k : Nat) (h : Hp) (d x : AV) : Option (Nat × Hp) :=
  match d with
  | .slice b o dl _ _ => match x with
    | .slice b' o' sl _ _ => match Nat.beq (minN sl dl) 0 with
      | true => some (0, h)
      | false => match rdCells h b' o' (Nat.mul (minN sl dl) k) with
        | some l => match putCells G h b o l with
          | some h' => some (minN sl dl, h')
          | none => none
        | none => none
    | .str sl n => match Nat.beq (minN sl dl) 0 with
      | true => some (0, h)
      | false => match Nat.beq k 1 with
        | true => match putCells G h b o (strBytes (minN sl dl) n) with
          | some h' => some (minN sl dl, h')
          | none => none
        | false => none
    | .snil => some (0, h)
    | .edge _ _ _ => some (0, h)
    | _ => none
  | .snil => match x with
    | .slice _ _ _ _ _ => some (0, h)
    | .str _ _ => some (0, h)
    | .snil => some (0, h)
    | .edge _ _ _ => some (0, h)
    | _ => none
  | .edge _ _ _ => match x with
    | .slice _ _ _ _ _ => some (0, h)
    | .str _ _ => some (0, h)
    | .snil => some (0, h)
    | .edge _ _ _ => some (0, h)
    | _ => none
  | _ => none

theorem strBytes_take : ∀ (a b n : Nat), a ≤ b → strBytes a n = (strBytes b n).take a
  | 0, b, n, _ => rfl
  | a + 1, 0, n, h => by omega
  | a + 1, b + 1, n, h => by simp only [strBytes, List.take_succ_cons]; rw [strBytes_take a b _ (by omega)]

theorem copy_run {t t2 ty e : TypeId} {i : TypeInfo} {base : Option Addr} {dl dc sl : Nat} {x : Value} {cells : Array Value}
    (hu : P.underlying t = some (.slice e)) (hi : P.info? e = some i) (hl : (Builtin.lenOf x).run P w = .ok sl w)
    (hf : (Builtin.firstCells i.size (Nat.min sl dl) x).run P w = .ok cells w) :
    (Builtin.copy_ #[t, t2] ty #[.slice base dl dc, x]).run P w =
      (match base with
        | some a => (storeCells a cells.toList).run P w
        | none => .ok () w).andThen fun _ w' => .ok (.int .i64 (Nat.min sl dl : Nat)) w' := by
  cases base <;> simp [Builtin.copy_, run_underlying hu, sizeOf, run_typeInfo _ hi, hl, hf, goInt]

theorem copy_sound (H : HRel G w0 ρ h nx w) {t t2 ty e : TypeId} {i : TypeInfo} {d x : AV} {n : Nat} {h' : Hp} (hu : P.underlying t = some (.slice e)) (hi : P.info? e = some i)
    (hd : okv ρ.d d) (hx : okv ρ.d x) (hr : fCopy G i.size h d x = some (n, h')) :
    EffAt P G w0 ρ h nx w (Builtin.copy_ #[t, t2] ty #[toV ρ d, toV ρ x]) (.int .i64 (.ofNat n)) h' nx := by
  -- nothing is copied
  have zero : ∀ (base : Option Addr) (dl dc sl : Nat) (xv : Value), (Builtin.lenOf xv).run P w = .ok sl w → Nat.min sl dl = 0 → (Builtin.firstCells i.size 0 xv).run P w = .ok #[] w →
      EffAt P G w0 ρ h nx w (Builtin.copy_ #[t, t2] ty #[.slice base dl dc, xv]) (.int .i64 (.ofNat 0)) h nx := by
    intro base dl dc sl xv h1 h2 h3
    refine ⟨ρ, w, ?_, trivial, H, Ext.refl _ _ _⟩
    have := copy_run (P := P) (w := w) (t2 := t2) (ty := ty) (base := base) (dl := dl) (dc := dc) hu hi h1 (by rw [h2]; exact h3)
    rw [h2] at this
    rw [this]
    cases base <;> rfl
  have fc0 : ∀ xv : Value, (∃ a l c, xv = .slice a l c) ∨ (∃ s, xv = .string s) → (Builtin.firstCells i.size 0 xv).run P w = .ok #[] w := by
    rintro xv (⟨a, l, c, rfl⟩ | ⟨s, rfl⟩)
    · cases a <;> simp [Builtin.firstCells, loadCells, loadCellsFrom]
    · have : (s.extract 0 0).data = #[] := by rw [ByteArray.data_extract]; simp
      simp [Builtin.firstCells]
  have lenv : ∀ v : AV, (∃ b o l c p, v = .slice b o l c p) ∨ (∃ l n, v = .str l n) ∨ v = .snil ∨ (∃ b o d, v = .edge b o d) → ∃ sl, (Builtin.lenOf (toV ρ v)).run P w = .ok sl w ∧
      ((∃ a l c, toV ρ v = .slice a l c) ∨ (∃ s, toV ρ v = .string s)) := by
    rintro v (⟨b, o, l, c, p, rfl⟩ | ⟨l, n, rfl⟩ | rfl | ⟨b, o, d, rfl⟩)
    · exact ⟨l, by simp [Builtin.lenOf, toV], .inl ⟨_, _, _, rfl⟩⟩
    · exact ⟨l, by simp [Builtin.lenOf, toV, strOf_size], .inr ⟨_, rfl⟩⟩
    · exact ⟨0, by simp [Builtin.lenOf, toV], .inl ⟨_, _, _, rfl⟩⟩
    · exact ⟨0, by simp [Builtin.lenOf, toV], .inl ⟨_, _, _, rfl⟩⟩
  have min0 : ∀ a : Nat, Nat.min a 0 = 0 := fun a => Nat.min_zero a
  cases d <;> try (simp [fCopy] at hr; done)
  · -- nil
    have hz : n = 0 ∧ h' = h ∧ ((∃ b o l c p, x = .slice b o l c p) ∨ (∃ l n, x = .str l n) ∨ x = .snil ∨ (∃ b o d, x = .edge b o d)) := by
      cases x <;> simp [fCopy] at hr <;> simp_all
    obtain ⟨rfl, rfl, hk⟩ := hz
    obtain ⟨sl, h1, h2⟩ := lenv x hk
    exact zero none 0 0 sl _ h1 (min0 sl) (fc0 _ h2)
  · rename_i b o dl dc opn
    cases x <;> try (simp [fCopy] at hr; done)
    · rename_i sl q
      simp only [fCopy, minN_eq] at hr
      split at hr
      · rename_i h0
        rw [Nat.beq_eq] at h0
        simp only [Option.some.injEq, Prod.mk.injEq] at hr
        obtain ⟨rfl, rfl⟩ := hr
        exact zero _ dl _ sl _ (by simp [Builtin.lenOf, toV, strOf_size]) h0 (fc0 _ (.inr ⟨_, rfl⟩))
      · split at hr
        · rename_i hk1
          rw [Nat.beq_eq] at hk1
          split at hr
          · rename_i hp hput
            simp only [Option.some.injEq, Prod.mk.injEq] at hr
            obtain ⟨rfl, rfl⟩ := hr
            obtain ⟨s1, s2, s3⟩ := strBytes_spec (ρ := ρ) (min sl dl) q
            obtain ⟨w', q1, q2, q3⟩ := put_sound (P := P) H hd (s3 _) hput
            refine ⟨ρ, w', ?_, trivial, q2, q3⟩
            have hf : (Builtin.firstCells i.size (Nat.min sl dl) (toV ρ (.str sl q))).run P w = .ok ((strBytes (min sl dl) q).map (toV ρ)).toArray w := by
              simp only [Builtin.firstCells, toV, Sem.run_pure]
              congr 1
              apply Array.ext'
              have e1 : Nat.min sl dl = min sl dl := rfl
              rw [s1, e1]
              simp only [Array.toList_map, ByteArray.data_extract, Array.toList_extract, List.extract, strOf, Nat.sub_zero, List.drop_zero]
              congr 1
              have : ∀ (a b n : Nat), a ≤ b → bytesOf a n = (bytesOf b n).take a := by
                intro a
                induction a with
                | zero => intro b n _; rfl
                | succ a ih =>
                  intro b n hab
                  cases b with
                  | zero => omega
                  | succ b => simp only [bytesOf, List.take_succ_cons]; rw [ih b (n / 256) (by omega)]
              exact (this _ _ _ (Nat.min_le_left _ _)).symm
            have := copy_run (P := P) (w := w) (t2 := t2) (ty := ty) (base := some ⟨ρ.m b, o, none⟩) (dl := dl) (dc := if opn then dc + ρ.e b else dc) (sl := sl) hu hi (by simp [Builtin.lenOf, toV, strOf_size]) hf
            simp only [q1, Result.andThen_ok] at this
            exact this
          · simp at hr
        · simp at hr
    · simp only [fCopy, Option.some.injEq, Prod.mk.injEq] at hr
      obtain ⟨rfl, rfl⟩ := hr
      exact zero _ dl _ 0 _ (by simp [Builtin.lenOf, toV]) (Nat.zero_min _) (fc0 _ (.inl ⟨_, _, _, rfl⟩))
    · rename_i b' o' sl sc opn'
      simp only [fCopy, minN_eq] at hr
      split at hr
      · rename_i h0
        rw [Nat.beq_eq] at h0
        simp only [Option.some.injEq, Prod.mk.injEq] at hr
        obtain ⟨rfl, rfl⟩ := hr
        exact zero _ dl _ sl _ (by simp [Builtin.lenOf, toV]) h0 (fc0 _ (.inl ⟨_, _, _, rfl⟩))
      · split at hr
        · rename_i l hrd
          split at hr
          · rename_i hp hput
            simp only [Option.some.injEq, Prod.mk.injEq] at hr
            obtain ⟨rfl, rfl⟩ := hr
            obtain ⟨r1, r2, r3⟩ := rd_sound H hx hrd
            obtain ⟨w', q1, q2, q3⟩ := put_sound (P := P) H hd r1 hput
            refine ⟨ρ, w', ?_, trivial, q2, q3⟩
            have := copy_run (P := P) (w := w) (t2 := t2) (ty := ty) (base := some ⟨ρ.m b, o, none⟩) (dl := dl) (dc := if opn then dc + ρ.e b else dc) (sl := sl)
              (x := toV ρ (.slice b' o' sl sc opn')) hu hi (by simp [Builtin.lenOf, toV]) (run_rd (P := P) H hx hrd)
            simp only [q1, Result.andThen_ok] at this
            exact this
          · simp at hr
        · simp at hr
    · simp only [fCopy, Option.some.injEq, Prod.mk.injEq] at hr
      obtain ⟨rfl, rfl⟩ := hr
      exact zero _ dl _ 0 _ (by simp [Builtin.lenOf, toV]) (Nat.zero_min _) (fc0 _ (.inl ⟨_, _, _, rfl⟩))
  · -- edge
    rename_i b o dd
    have hz : n = 0 ∧ h' = h ∧ ((∃ b o l c p, x = .slice b o l c p) ∨ (∃ l n, x = .str l n) ∨ x = .snil ∨ (∃ b o d, x = .edge b o d)) := by
      cases x <;> simp [fCopy] at hr <;> simp_all
    obtain ⟨rfl, rfl, hk⟩ := hz
    obtain ⟨sl, h1, h2⟩ := lenv x hk
    exact zero _ 0 _ sl _ h1 (min0 sl) (fc0 _ h2)

/-! ### next -/
/-- the code point at a place -/
def decA (len n pos : Nat) : Nat × Nat :=
  match Nat.blt (byteAt n pos) 128 with
  | true => (byteAt n pos, 1)
  | false => Utf8.decode (strOf len n) pos
theorem decA_eq (len n pos : Nat) (hp : pos < len) : decA len n pos = Utf8.decode (strOf len n) pos := by
  unfold decA
  split
  · rename_i h
    rw [blt_eq] at h
    have h := of_decide_eq_true h
    have hs : pos < (strOf len n).size := by rw [strOf_size]; exact hp
    have hg : (strOf len n)[pos] = UInt8.ofNat (byteAt n pos) := by
      have := strOf_get len n pos hp
      rw [Go.ByteArray.getElem?_lt' _ _ hs] at this
      simpa using this
    have ht : ((strOf len n)[pos]).toNat = byteAt n pos := by rw [hg, UInt8.toNat_ofNat']; have := byteAt_lt n pos; omega
    rw [decode_ascii (strOf len n) pos hs (by rw [ht]; exact h), ht]
  · rfl
noncomputable def fNext (G : Nat) (h : Hp) (v : AV) : Option (AV × Hp) :=
  match v with
  | .ptr b 0 => match h.get b with
    | some (.iter len n pos) => match Nat.ble G b with
      | true => match Nat.blt pos len with
        | true => some (.tuple [.bool true, .int .i64 (.ofNat pos), .int .i32 (.ofNat (decA len n pos).1)], h.set b (.iter len n (Nat.add pos (decA len n pos).2)))
        | false => some (.tuple [.bool false], h)
      | false => none
    | some (.liter len c l pos) => match Nat.ble G b with
      | true => match Nat.blt pos len with
        | true => match byteL c l pos with
          | some (q, m) => match ltI (linMx q m) 128 with
            | true => match mkLin .i32 q m with
              | some r => some (.tuple [.bool true, .int .i64 (.ofNat pos), r], h.set b (.liter len c l (Nat.succ pos)))
              | none => none
            | false => none
          | none => none
        | false => some (.tuple [.bool false], h)
      | false => none
    | _ => none
  | _ => none
theorem next_sound (H : HRel G w0 ρ h nx w) {ty : TypeId} {v r : AV} {h' : Hp} (hv : okv ρ.d v) (hr : fNext G h v = some (r, h')) :
    EffAt P G w0 ρ h nx w (Instr.next (toV ρ v) true ty) r h' nx := by
  unfold fNext at hr
  split at hr
  · rename_i b
    split at hr
    · rename_i len n pos hg
      split at hr
      · rename_i hG
        have hG : G ≤ b := Nat.le_of_ble_eq_true hG
        obtain ⟨x, hx, rfl, hn⟩ := H.obj b _ (H.lt b hv) hg hv
        split at hr
        · rename_i hp
          rw [blt_eq] at hp
          have hp := of_decide_eq_true hp
          simp only [Option.some.injEq, Prod.mk.injEq] at hr
          obtain ⟨rfl, rfl⟩ := hr
          have hlt : ρ.m b < w.heap.size := (Array.getElem?_eq_some_iff.1 hx).1
          have u : UpdAt w { w with heap := w.heap.setIfInBounds (ρ.m b) (.stringIter (strOf len n) (pos + (decA len n pos).2)) } (ρ.m b) (.stringIter (strOf len n) (pos + (decA len n pos).2)) :=
            ⟨rfl, rfl, rfl, by simp, by simp [Array.getElem?_setIfInBounds_self_of_lt hlt], fun k hk => by simp [Array.getElem?_setIfInBounds_ne (Ne.symm hk)]⟩
          obtain ⟨H', E⟩ := H.upd hg hv hG u (o' := .iter len n (pos + (decA len n pos).2)) ⟨rfl, hn⟩
          refine ⟨ρ, _, ?_, ⟨trivial, trivial, trivial, trivial⟩, H', E⟩
          rw [decA_eq len n pos hp]
          have hp' : pos < (strOf len n).size := by rw [strOf_size]; exact hp
          simp only [Instr.next, toV, getObj, setObj]
          simp only [Sem.run_bind, Sem.run, hx, Result.andThen_ok, hp', if_true, Sem.run_pure]
          simp [toVs, toV, goInt]
        · rename_i hp
          rw [blt_eq, decide_eq_false_iff_not] at hp
          simp only [Option.some.injEq, Prod.mk.injEq] at hr
          obtain ⟨rfl, rfl⟩ := hr
          refine ⟨ρ, w, ?_, ⟨trivial, trivial⟩, H, Ext.refl _ _ _⟩
          have hp' : ¬ pos < (strOf len n).size := by rw [strOf_size]; exact hp
          simp only [Instr.next, toV, getObj]
          simp only [Sem.run_bind, Sem.run, hx, Result.andThen_ok, hp', if_false, Sem.run_pure]
          simp [toVs, toV]
      · simp at hr
    · rename_i len c l pos hg
      split at hr
      · rename_i hG
        have hG : G ≤ b := Nat.le_of_ble_eq_true hG
        obtain ⟨x, hx, hxe⟩ := H.obj b _ (H.lt b hv) hg hv
        have hxe : x = .stringIter (strOf len (linV ρ.s c l).toNat) pos := hxe
        subst hxe
        split at hr
        · rename_i hp
          rw [blt_eq] at hp
          have hp := of_decide_eq_true hp
          split at hr <;> try (simp at hr; done)
          rename_i q m hq
          split at hr <;> try (simp at hr; done)
          rename_i hlt7
          rw [ltI_eq] at hlt7
          have hlt7 := of_decide_eq_true hlt7
          split at hr <;> try (simp at hr; done)
          rename_i r' hr'
          simp only [Option.some.injEq, Prod.mk.injEq] at hr
          obtain ⟨rfl, rfl⟩ := hr
          obtain ⟨m1, _, m3⟩ := mkLin_spec hr' ρ
          rw [byteL_spec hq ρ.s] at m1
          have hb7 : byteAt (linV ρ.s c l).toNat pos < 128 := by
            have a := (lin_rng ρ.s q m).2
            rw [byteL_spec hq ρ.s] at a
            have a : ((byteAt (linV ρ.s c l).toNat pos : Nat) : Int) ≤ linMx q m := a
            omega
          have hdec : decA len (linV ρ.s c l).toNat pos = (byteAt (linV ρ.s c l).toNat pos, 1) := by
            unfold decA
            rw [blt_eq, decide_eq_true hb7]
          rw [decA_eq _ _ _ hp] at hdec
          have hlt : ρ.m b < w.heap.size := (Array.getElem?_eq_some_iff.1 hx).1
          have u : UpdAt w { w with heap := w.heap.setIfInBounds (ρ.m b) (.stringIter (strOf len (linV ρ.s c l).toNat) (pos + 1)) } (ρ.m b) (.stringIter (strOf len (linV ρ.s c l).toNat) (pos + 1)) :=
            ⟨rfl, rfl, rfl, by simp, by simp [Array.getElem?_setIfInBounds_self_of_lt hlt], fun k hk => by simp [Array.getElem?_setIfInBounds_ne (Ne.symm hk)]⟩
          obtain ⟨H', E⟩ := H.upd hg hv hG u (o' := .liter len c l (pos + 1)) rfl
          refine ⟨ρ, _, ?_, ⟨trivial, trivial, m3 _, trivial⟩, H', E⟩
          have hp' : pos < (strOf len (linV ρ.s c l).toNat).size := by rw [strOf_size]; exact hp
          simp only [Instr.next, toV, getObj, setObj]
          simp only [Sem.run_bind, Sem.run, hx, Result.andThen_ok, hp', if_true, Sem.run_pure, hdec]
          simp [toVs, toV, goInt, m1]
        · rename_i hp
          rw [blt_eq, decide_eq_false_iff_not] at hp
          simp only [Option.some.injEq, Prod.mk.injEq] at hr
          obtain ⟨rfl, rfl⟩ := hr
          refine ⟨ρ, w, ?_, ⟨trivial, trivial⟩, H, Ext.refl _ _ _⟩
          have hp' : ¬ pos < (strOf len (linV ρ.s c l).toNat).size := by rw [strOf_size]; exact hp
          simp only [Instr.next, toV, getObj]
          simp only [Sem.run_bind, Sem.run, hx, Result.andThen_ok, hp', if_false, Sem.run_pure]
          simp [toVs, toV]
      · simp at hr
    · simp at hr
  · simp at hr

end
end Go.Vai
