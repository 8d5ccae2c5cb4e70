/- Operations that turn memory: store, append, copy, next, freeze; atomics. -/
import Derived.Test.YtjkpgkmhkgngpaaGreatDoorVaiJ
namespace Go.Vai
open Go.RowKit

inductive ER where
  | no
  | ok (v : AV) (h : Hp) (n : Nat)

section
variable {G : Nat} {w0 : Base} {ρ : Ren} {h : Hp} {nx : Nat} {w : World} {P : Program}

def EffAt (P : Program) (G : Nat) (w0 : Base) (ρ : Ren) (h : Hp) (nx : Nat) (w : World) (s : Sem Value) (v : AV) (h' : Hp) (nx' : Nat) : Prop :=
  ∃ ρ' w', s.run P w = .ok (toV ρ' v) w' ∧ okv ρ'.d v ∧ HRel G w0 ρ' h' nx' w' ∧ Ext ρ h nx ρ' h' nx'

/-! ### store -/
noncomputable def fStore (G k : Nat) (h : Hp) (a x : AV) : Option Hp :=
  match a with
  | .ptr b o => match Nat.beq (cellsA x).length k with
    | true => putCells G h b o (cellsA x)
    | false => none
  | _ => none
theorem store_sound (H : HRel G w0 ρ h nx w) {t : TypeId} {i : TypeInfo} {a x : AV} {h' : Hp} (hi : P.info? t = some i) (ha : okv ρ.d a) (hx : okv ρ.d x)
    (hr : fStore G i.size h a x = some h') : ∃ w', (Instr.storeAt t (toV ρ a) (toV ρ x)).run P w = .ok () w' ∧ HRel G w0 ρ h' nx w' ∧ Ext ρ h nx ρ h' nx := by
  cases a <;> try (simp [fStore] at hr; done)
  rename_i b o
  simp only [fStore] at hr
  split at hr
  · rename_i hl
    rw [Nat.beq_eq] at hl
    obtain ⟨w', h1, h2, h3⟩ := put_sound (P := P) H ha (okvs_cells hx) hr
    refine ⟨w', ?_, h2, h3⟩
    have hs : (toV ρ x).cells.size = i.size := by rw [cells_toV']; simpa using hl
    simp only [Instr.storeAt, Instr.sureAddr, toV, Sem.run_bind, Sem.run_pure, Result.andThen_ok, storeVar, sizeOf, run_typeInfo _ hi, hs, ne_eq, not_true_eq_false, if_false]
    rw [cells_toV ρ x]
    exact h1
  · simp at hr

/-! ### append -/
/-- the two kinds of things that are appended by their cells -/
def XType (P : Program) (t2 : TypeId) : Prop := P.underlying t2 = some .string ∨ ∃ e, P.underlying t2 = some (.slice e)

theorem append_room {t t2 ty e : TypeId} {i : TypeInfo} {base : Option Addr} {sLen sCap n : Nat} {x : Value} {news : Array Value}
    (hu : P.underlying t = some (.slice e)) (hi : P.info? e = some i) (h2 : XType P t2)
    (hl : (Builtin.lenOf x).run P w = .ok n w) (hf : (Builtin.firstCells i.size n x).run P w = .ok news w) (hr : sLen + n ≤ sCap) :
    (Builtin.append_ #[t, t2] ty #[.slice base sLen sCap, x]).run P w =
      (match base with
        | some a => (storeCells (a.add (sLen * i.size)) news.toList).run P w
        | none => .ok () w).andThen fun _ w' => .ok (.slice base (sLen + n) sCap) w' := by
  rcases h2 with h2 | ⟨e2, h2⟩ <;> cases base <;>
    simp [Builtin.append_, run_underlying hu, run_underlying h2, sizeOf, run_typeInfo _ hi, hl, hf, hr]

theorem append_grow {t t2 ty e : TypeId} {i : TypeInfo} {z : Value} {base : Option Addr} {sLen sCap n : Nat} {x : Value} {olds news : Array Value}
    (hu : P.underlying t = some (.slice e)) (hi : P.info? e = some i) (hz : i.zero = some z) (h2 : XType P t2)
    (hl : (Builtin.lenOf x).run P w = .ok n w) (hf : (Builtin.firstCells i.size n x).run P w.drew = .ok news w.drew)
    (ho : (Builtin.firstCells i.size sLen (.slice base sLen sCap)).run P w.drew = .ok olds w.drew) (hr : sCap < sLen + n) (hb : (sLen + n) * i.bytes ≤ 140737488355328) (hn : sLen + n ≤ 1000000) :
    (Builtin.append_ #[t, t2] ty #[.slice base sLen sCap, x]).run P w =
      .ok (.slice (some ⟨w.heap.size, 0, none⟩) (sLen + n) (grownCap w (sLen + n) sCap e))
        (w.drew.alloc (.cells (olds ++ news ++ Builtin.zeroCells z.cells (grownCap w (sLen + n) sCap e - (sLen + n))) e)) := by
  have h1 : ¬ (sLen + n ≤ sCap) := by omega
  have h63' : ¬ (9223372036854775807 < ((sLen : Int) + (n : Int))) := by omega
  have h48' : ¬ (281474976710656 < Builtin.nextslicecap (sLen + n) sCap * i.bytes) := by have := growslice_fits hr hb; omega
  rcases h2 with h2 | ⟨e2, h2⟩ <;>
    simp [Builtin.append_, run_underlying hu, run_underlying h2, sizeOf, run_typeInfo _ hi, zeroValue, hz, hl, h1, h63', h48', Question.forced, hf, ho, newRow, grownCap]

theorem append_room0 {t t2 ty e : TypeId} {i : TypeInfo} {z : Value} {k2 : IntKind} {base : Option Addr} {sLen sCap n : Nat} {kn : IntKind}
    (hu : P.underlying t = some (.slice e)) (hi : P.info? e = some i) (hz : i.zero = some z) (h2 : P.underlying t2 = some (.int k2)) (hn : n ≤ 1000000) (hb : n * i.bytes ≤ 140737488355328)
    (hr : sLen + n ≤ sCap) (hpos : n * i.size ≠ 0) :
    (Builtin.append_ #[t, t2] ty #[.slice base sLen sCap, .int kn (n : Int)]).run P w =
      (match base with
        | some a => (storeCells (a.add (sLen * i.size)) (Builtin.zeroCells z.cells n).toList).run P w
        | none => .ok () w).andThen fun _ w' => .ok (.slice base (sLen + n) sCap) w' := by
  have hw : IntKind.i64.wrap (n : Int) = n := wrap_in .i64 n (by simp only [maxN]; omega)
  have h0 : ¬ ((n : Int) < 0) := by omega
  have h48 : ¬ ((281474976710656 : Int) < (n : Int) * (i.bytes : Int)) := by rw [← Int.natCast_mul]; omega
  cases base
  · simp [Builtin.append_, run_underlying hu, run_underlying h2, sizeOf, run_typeInfo _ hi, asInt, asIntOf, hw, h0, h48, hr, zeroValue, hz]
  · simp [Builtin.append_, run_underlying hu, run_underlying h2, sizeOf, run_typeInfo _ hi, zeroValue, hz, asInt, asIntOf, hw, h0, h48, hr]
    exact fun h0 => absurd h0 hpos

theorem append_grow0 {t t2 ty e : TypeId} {i : TypeInfo} {z : Value} {k2 : IntKind} {base : Option Addr} {sLen sCap n : Nat} {kn : IntKind} {olds : Array Value}
    (hu : P.underlying t = some (.slice e)) (hi : P.info? e = some i) (hz : i.zero = some z) (h2 : P.underlying t2 = some (.int k2))
    (ho : (Builtin.firstCells i.size sLen (.slice base sLen sCap)).run P w.drew = .ok olds w.drew) (hr : sCap < sLen + n) (hb : (sLen + n) * i.bytes ≤ 140737488355328) (hn : sLen + n ≤ 1000000)
    (hpos : n * i.size ≠ 0) :
    (Builtin.append_ #[t, t2] ty #[.slice base sLen sCap, .int kn (n : Int)]).run P w =
      .ok (.slice (some ⟨w.heap.size, 0, none⟩) (sLen + n) (grownCap w (sLen + n) sCap e))
        (w.drew.alloc (.cells (olds ++ Builtin.zeroCells z.cells n ++ Builtin.zeroCells z.cells (grownCap w (sLen + n) sCap e - (sLen + n))) e)) := by
  have hw : IntKind.i64.wrap (n : Int) = n := wrap_in .i64 n (by simp only [maxN]; omega)
  have h0 : ¬ ((n : Int) < 0) := by omega
  have hnb : n * i.bytes ≤ (sLen + n) * i.bytes := Nat.mul_le_mul_right _ (by omega)
  have h48 : ¬ ((281474976710656 : Int) < (n : Int) * (i.bytes : Int)) := by rw [← Int.natCast_mul]; omega
  have h1 : ¬ (sLen + n ≤ sCap) := by omega
  have h63' : ¬ (9223372036854775807 < ((sLen : Int) + (n : Int))) := by omega
  have h48' : ¬ (281474976710656 < Builtin.nextslicecap (sLen + n) sCap * i.bytes) := by have := growslice_fits hr hb; omega
  simp [Builtin.append_, run_underlying hu, run_underlying h2, sizeOf, run_typeInfo _ hi, zeroValue, hz, asInt, asIntOf, hw, h0, h48, h1, h63', h48', Question.forced, ho, newRow, grownCap]
  exact fun h0 => absurd h0 hpos

/-- what is appended: how many, and their cells -/
inductive XK where
  | slice
  | str
  | zeros (zl : List AV)
noncomputable def fNews (xk : XK) (k : Nat) (h : Hp) (x : AV) : Option (Nat × List AV) :=
  match xk with
  | .slice => match x with
    | .snil => some (0, [])
    | .edge _ _ _ => some (0, [])
    | .slice b o len _ _ => match rdCells h b o (Nat.mul len k) with
      | some l => some (len, l)
      | none => none
    | _ => none
  | .str => match x with
    | .str len n => some (len, strBytes len n)
    | .lstr len c l => match bytesL c l len 0 with
      | some r => some (len, r)
      | none => none
    | _ => none
  | .zeros zl => match x with
    | .int _ n => match n with
      | .ofNat n => match and (Nat.ble n 1000000) (Nat.blt 0 n) with
        | true => some (n, zerosL zl k (Nat.mul n k))
        | false => none
      | .negSucc _ => none
    | _ => none

/-- an append that makes a new row -/
noncomputable def growRow (e k need : Nat) (l : List AV) (h : Hp) (nx : Nat) : ER :=
  match and (Nat.ble need 1000000) (Nat.blt nx 16777216) with
  | true => match rowObj l e .none k with
    | some o => .ok (.slice nx 0 need need true) (h.set nx o) (Nat.succ nx)
    | none => .no
  | false => .no

/-- may the block have more room than is known? -/
noncomputable def openBlock (h : Hp) (b o cap k e : Nat) : Bool :=
  match h.get b with
  | some (.cells _ nb ty .none q) => and (and (Nat.beq q k) (Nat.beq ty e)) (and (Nat.beq o 0) (Nat.beq (Nat.mul cap k) nb))
  | _ => false

noncomputable def fAppend (G e k bytes : Nat) (h : Hp) (nx : Nat) (s : AV) (n : Nat) (news : List AV) : ER :=
  match s with
  | .snil => match Nat.beq n 0 with
    | true => .ok .snil h nx
    | false => match Nat.ble (Nat.mul n bytes) 140737488355328 with
      | true => growRow e k n news h nx
      | false => .no
  | .slice b o len cap opn => match Nat.ble (Nat.add len n) cap with
    | true => match Nat.beq n 0 with
      | true => .ok (.slice b o len cap opn) h nx
      | false => match and (Nat.ble n 1000000) (Nat.ble (Nat.mul n bytes) 140737488355328) with
        | true => match putCells G h b (Nat.add o (Nat.mul len k)) news with
          | some h' => .ok (.slice b o (Nat.add len n) cap opn) h' nx
          | none => .no
        | false => .no
    | false => match Nat.ble (Nat.mul (Nat.add len n) bytes) 140737488355328 with
      | false => .no
      | true => match rdCells h b o (Nat.mul len k) with
        | none => .no
        | some olds => match opn with
          | false => growRow e k (Nat.add len n) (olds ++ news) h nx
          | true => match and (openBlock h b o cap k e) (and (Nat.blt 0 n) (and (Nat.ble G b) (allOne news))) with
            | true => growRow e k (Nat.add len n) (olds ++ news) (h.del b) nx
            | false => .no
  | _ => .no

/-- what the run tells of the thing that is appended -/
def NewsSpec (P : Program) (ρ : Ren) (w : World) (k n : Nat) (news : List AV) (x : AV) : XK → Prop
  | .slice => news.length = n * k ∧ okvs ρ.d news ∧ (Builtin.lenOf (toV ρ x)).run P w = .ok n w ∧ ∀ m, (Builtin.firstCells k n (toV ρ x)).run P { w with drawn := m } = .ok (news.map (toV ρ)).toArray { w with drawn := m }
  | .str => news.length = n ∧ okvs ρ.d news ∧ (Builtin.lenOf (toV ρ x)).run P w = .ok n w ∧ ∀ m, (Builtin.firstCells k n (toV ρ x)).run P { w with drawn := m } = .ok (news.map (toV ρ)).toArray { w with drawn := m }
  | .zeros zl => news = zerosL zl k (n * k) ∧ 0 < n ∧ n ≤ 1000000 ∧ ∃ kn, x = .int kn (n : Int)

theorem news_sound (H : HRel G w0 ρ h nx w) {xk : XK} {k n : Nat} {x : AV} {news : List AV} (hx : okv ρ.d x) (hr : fNews xk k h x = some (n, news)) : NewsSpec P ρ w k n news x xk := by
  cases xk with
  | slice =>
    cases x <;> try (simp [fNews] at hr; done)
    · simp only [fNews, Option.some.injEq, Prod.mk.injEq] at hr
      obtain ⟨rfl, rfl⟩ := hr
      exact ⟨by simp, trivial, by simp [Builtin.lenOf, toV], fun m => by simp [Builtin.firstCells, toV]⟩
    · rename_i b o len cap opn
      simp only [fNews] at hr
      split at hr
      · rename_i l hl
        simp only [Option.some.injEq, Prod.mk.injEq] at hr
        obtain ⟨rfl, rfl⟩ := hr
        obtain ⟨h1, h2, _⟩ := rd_sound H hx hl
        exact ⟨h2, h1, by simp [Builtin.lenOf, toV], fun m => run_rd (P := P) (H.drawn m) hx hl⟩
      · simp at hr
    · rename_i b o d
      simp only [fNews, Option.some.injEq, Prod.mk.injEq] at hr
      obtain ⟨rfl, rfl⟩ := hr
      exact ⟨by simp, trivial, by simp [Builtin.lenOf, toV], fun m => by simp [Builtin.firstCells, toV, loadCells, loadCellsFrom]⟩
  | str =>
    have main : ∀ (len q : Nat) (lb : List AV), lb.map (toV ρ) = (bytesOf len q).map (fun b => Value.int .u8 b.toNat) →
        ∀ m, (Builtin.firstCells k len (.string (strOf len q))).run P { w with drawn := m } = .ok (lb.map (toV ρ)).toArray { w with drawn := m } := by
      intro len q lb h1 m
      have : (strOf len q).extract 0 len = strOf len q := by
        apply ByteArray.ext; apply Array.ext'
        have hsz : (strOf len q).data.size = len := strOf_size len q
        rw [ByteArray.data_extract, Array.toList_extract, List.extract]
        simp only [Nat.sub_zero, List.drop_zero]
        rw [List.take_of_length_le (by rw [Array.length_toList, hsz]; exact Nat.le_refl _)]
      simp only [Builtin.firstCells, this, h1, Sem.run_pure]
      congr 1
      apply Array.ext'
      simp [strOf]
    cases x <;> try (simp [fNews] at hr; done)
    · rename_i len q
      simp only [fNews, Option.some.injEq, Prod.mk.injEq] at hr
      obtain ⟨rfl, rfl⟩ := hr
      obtain ⟨h1, h2, h3⟩ := strBytes_spec (ρ := ρ) len q
      exact ⟨h2, h3 _, by simp [Builtin.lenOf, toV, strOf_size], main len q _ h1⟩
    · rename_i len c l
      simp only [fNews] at hr
      split at hr
      · rename_i lb hb
        simp only [Option.some.injEq, Prod.mk.injEq] at hr
        obtain ⟨rfl, rfl⟩ := hr
        obtain ⟨h1, h2, h3⟩ := bytesL_spec ρ hb
        exact ⟨h2, h3 _, by simp [Builtin.lenOf, toV, strOf_size], main len _ _ h1⟩
      · simp at hr
  | zeros zl =>
    cases x <;> try (simp [fNews] at hr; done)
    rename_i kn q
    simp only [fNews] at hr
    split at hr
    · split at hr
      · rename_i q hb
        simp only [Bool.and_eq_true] at hb
        simp only [Option.some.injEq, Prod.mk.injEq] at hr
        obtain ⟨rfl, rfl⟩ := hr
        have h1 := Nat.le_of_ble_eq_true hb.1
        have h2 := hb.2
        rw [blt_eq] at h2
        exact ⟨rfl, of_decide_eq_true h2, h1, kn, rfl⟩
      · simp at hr
    · simp at hr

theorem growRow_spec {e k need nx' : Nat} {l : List AV} {h h' : Hp} {nx : Nat} {v : AV} (hr : growRow e k need l h nx = .ok v h' nx') :
    need ≤ 1000000 ∧ nx < keyMax ∧ ∃ o, rowObj l e .none k = some o ∧ v = .slice nx 0 need need true ∧ h' = h.set nx o ∧ nx' = nx + 1 := by
  unfold growRow at hr
  split at hr
  · rename_i hb
    simp only [Bool.and_eq_true] at hb
    split at hr
    · rename_i o ho
      simp only [ER.ok.injEq] at hr
      obtain ⟨rfl, rfl, rfl⟩ := hr
      have h2 := hb.2
      rw [blt_eq] at h2
      exact ⟨Nat.le_of_ble_eq_true hb.1, by unfold keyMax; exact of_decide_eq_true h2, o, ho, rfl, rfl, rfl⟩
    · simp at hr
  · simp at hr

/-- the new row of an append, behind its draw -/
theorem grow_eff (H : HRel G w0 ρ h nx w) {e k need nx' cap : Nat} {l : List AV} {h' : Hp} {v : AV} {cs rest : Array Value} {s : Sem Value} (hl : okvs ρ.d l)
    (hr : growRow e k need l h nx = .ok v h' nx') (hcap : need ≤ cap) (hcs : cs = (l.map (toV ρ)).toArray ++ rest) (hrest : rest.size = (cap - need) * k)
    (hrun : s.run P w = .ok (.slice (some ⟨w.heap.size, 0, none⟩) need cap) (w.drew.alloc (.cells cs e))) :
    EffAt P G w0 ρ h nx w s v h' nx' := by
  obtain ⟨h1, h2, o, ho, rfl, rfl, rfl⟩ := growRow_spec hr
  have hrel : ORel ρ (cap - need) o (.cells cs e) := rowObj_open rest ho hl hcs hrest rfl
  obtain ⟨H', E⟩ := H.drew.new h2 (cap - need) hrel
  obtain ⟨n1, n2⟩ := nv_toV ρ (.sl need need true) nx w.heap.size (cap - need)
  refine ⟨_, _, ?_, n2, H', E⟩
  have e : nvV (.sl need need true) w.heap.size (cap - need) = .slice (some ⟨w.heap.size, 0, none⟩) need cap := by
    simp only [nvV, if_true]; congr 1; omega
  show s.run P w = .ok (toV (ρ.put nx w.drew.heap.size (cap - need)) (nv (.sl need need true) nx)) _
  rw [World.size_drew, n1, e]
  exact hrun

theorem zeroCells_eq (z : Array Value) (n : Nat) : Builtin.zeroCells z n = (Array.range (n * z.size)).map (fun i => z[i % z.size]!) := rfl

theorem append_sound (H : HRel G w0 ρ h nx w) {t t2 ty e : TypeId} {k bytes n nx' : Nat} {zl : List AV} {xk : XK} {s x v : AV} {news : List AV} {h' : Hp}
    (ht : elemZ P t = some (e, k, bytes, zl)) (hk : k ≠ 0)
    (hxk : match xk with | .slice => ∃ e2, P.underlying t2 = some (.slice e2) | .str => P.underlying t2 = some .string ∧ k = 1 | .zeros zl' => (∃ k2, P.underlying t2 = some (.int k2)) ∧ zl' = zl)
    (hs : okv ρ.d s) (hx : okv ρ.d x) (hn : fNews xk k h x = some (n, news)) (hr : fAppend G e k bytes h nx s n news = .ok v h' nx') :
    EffAt P G w0 ρ h nx w (Builtin.append_ #[t, t2] ty #[toV ρ s, toV ρ x]) v h' nx' := by
  obtain ⟨hu, i, z, hi, hzz, rfl, rfl, hzl, hzs, hzc, hzo⟩ := elemZ_spec ht
  have hN := news_sound (P := P) H hx hn
  -- the two forms of the run
  have key : news.length = n * i.size ∧ okvs ρ.d news ∧
      (∀ base sLen sCap, sLen + n ≤ sCap → n ≠ 0 → n ≤ 1000000 → n * i.bytes ≤ 140737488355328 →
        (Builtin.append_ #[t, t2] ty #[.slice base sLen sCap, toV ρ x]).run P w =
          (match base with
            | some a => (storeCells (a.add (sLen * i.size)) (news.map (toV ρ))).run P w
            | none => .ok () w).andThen fun _ w' => .ok (.slice base (sLen + n) sCap) w') ∧
      (∀ base sLen sCap olds, (Builtin.firstCells i.size sLen (.slice base sLen sCap)).run P w.drew = .ok olds w.drew → sCap < sLen + n → (sLen + n) * i.bytes ≤ 140737488355328 → sLen + n ≤ 1000000 →
        (Builtin.append_ #[t, t2] ty #[.slice base sLen sCap, toV ρ x]).run P w =
          .ok (.slice (some ⟨w.heap.size, 0, none⟩) (sLen + n) (grownCap w (sLen + n) sCap e))
            (w.drew.alloc (.cells (olds ++ (news.map (toV ρ)).toArray ++ Builtin.zeroCells z.cells (grownCap w (sLen + n) sCap e - (sLen + n))) e))) := by
    cases xk with
    | slice =>
      obtain ⟨h1, h2, h3, h4⟩ := hN
      obtain ⟨e2, he2⟩ := hxk
      refine ⟨h1, h2, fun base sLen sCap hle _ _ _ => ?_, fun base sLen sCap olds ho hlt hb hm => ?_⟩
      · have := append_room (P := P) (w := w) (ty := ty) (base := base) hu hi (.inr ⟨e2, he2⟩) h3 (h4 w.drawn) hle
        simpa using this
      · exact append_grow (P := P) (w := w) (ty := ty) hu hi hzz (.inr ⟨e2, he2⟩) h3 (h4 (w.drawn + 1)) ho hlt hb hm
    | str =>
      obtain ⟨h1, h2, h3, h4⟩ := hN
      obtain ⟨he2, hk1⟩ := hxk
      refine ⟨by rw [h1, hk1, Nat.mul_one], h2, fun base sLen sCap hle _ _ _ => ?_, fun base sLen sCap olds ho hlt hb hm => ?_⟩
      · have := append_room (P := P) (w := w) (ty := ty) (base := base) hu hi (.inl he2) h3 (h4 w.drawn) hle
        simpa using this
      · exact append_grow (P := P) (w := w) (ty := ty) hu hi hzz (.inl he2) h3 (h4 (w.drawn + 1)) ho hlt hb hm
    | zeros zl' =>
      obtain ⟨h1, h2, h3, kn, rfl⟩ := hN
      obtain ⟨⟨k2, he2⟩, rfl⟩ := hxk
      obtain ⟨z1, z2⟩ := zerosL_spec (ρ := ρ) (n := n * i.size) hzc (fun _ => by rw [hzs]; exact hk) hzo
      rw [hzl] at z1 z2
      have hnn : n * i.size ≠ 0 := by intro h0; rcases Nat.mul_eq_zero.1 h0 with h0 | h0 <;> omega
      have zc : (news.map (toV ρ)).toArray = Builtin.zeroCells z.cells n := by rw [h1, z1, zeroCells_eq, hzs]
      have zc' : news.map (toV ρ) = (Builtin.zeroCells z.cells n).toList := by rw [← zc]
      refine ⟨by rw [h1]; simp [zerosL], by rw [h1]; exact z2 _, fun base sLen sCap hle _ _ hb => ?_, fun base sLen sCap olds ho hlt hb hm => ?_⟩
      · rw [zc']
        exact append_room0 (P := P) (w := w) (ty := ty) hu hi hzz he2 h3 hb hle hnn
      · rw [zc]
        exact append_grow0 (P := P) (w := w) (ty := ty) hu hi hzz he2 ho hlt hb hm hnn
  clear hN
  obtain ⟨hl, ho, hroom, hgrow⟩ := key
  cases s <;> try (simp [fAppend] at hr; done)
  · -- a nil slice
    simp only [fAppend] at hr
    split at hr
    · rename_i h0
      rw [Nat.beq_eq] at h0
      subst h0
      simp only [ER.ok.injEq] at hr
      obtain ⟨rfl, rfl, rfl⟩ := hr
      refine ⟨ρ, w, ?_, trivial, H, Ext.refl _ _ _⟩
      cases xk with
      | zeros zl' =>
        have hN := news_sound (P := P) H hx hn
        obtain ⟨_, h2, _⟩ := hN
        exact absurd h2 (by omega)
      | slice =>
        obtain ⟨_, _, h3, h4⟩ := news_sound (P := P) H hx hn
        obtain ⟨e2, he2⟩ := hxk
        have := append_room (P := P) (w := w) (ty := ty) (base := none) (sLen := 0) (sCap := 0) hu hi (.inr ⟨e2, he2⟩) h3 (h4 w.drawn) (Nat.le_refl _)
        simpa [toV] using this
      | str =>
        obtain ⟨_, _, h3, h4⟩ := news_sound (P := P) H hx hn
        have := append_room (P := P) (w := w) (ty := ty) (base := none) (sLen := 0) (sCap := 0) hu hi (.inl hxk.1) h3 (h4 w.drawn) (Nat.le_refl _)
        simpa [toV] using this
    · rename_i h0
      rw [beq_eq, decide_eq_false_iff_not] at h0
      split at hr
      · rename_i hb
        have hb : n * i.bytes ≤ 140737488355328 := Nat.le_of_ble_eq_true hb
        obtain ⟨h1, _⟩ := growRow_spec hr
        have := hgrow none 0 0 #[] (by simp [Builtin.firstCells]) (by omega) (by simpa using hb) (by simpa using h1)
        rw [Nat.zero_add] at this
        exact grow_eff H ho hr (grownCap_ge w n 0 e) (by simp; rfl) (by rw [size_zeroCells, hzs]) this
      · simp at hr
  · -- a slice
    rename_i b o len cap opn
    simp only [fAppend] at hr
    split at hr
    · rename_i hle
      have hle : len + n ≤ cap := Nat.le_of_ble_eq_true hle
      have hle' : len + n ≤ (if opn then cap + ρ.e b else cap) := by split <;> omega
      split at hr
      · rename_i h0
        rw [Nat.beq_eq] at h0
        subst h0
        simp only [ER.ok.injEq] at hr
        obtain ⟨rfl, rfl, rfl⟩ := hr
        refine ⟨ρ, w, ?_, hs, H, Ext.refl _ _ _⟩
        cases xk with
        | zeros zl' =>
          have hN := news_sound (P := P) H hx hn
          obtain ⟨_, h2, _⟩ := hN
          exact absurd h2 (by omega)
        | slice =>
          obtain ⟨h1, _, h3, h4⟩ := news_sound (P := P) H hx hn
          obtain ⟨e2, he2⟩ := hxk
          have hnil : news = [] := List.eq_nil_of_length_eq_zero (by simpa using h1)
          subst hnil
          have := append_room (P := P) (w := w) (ty := ty) (base := some ⟨ρ.m b, o, none⟩) hu hi (.inr ⟨e2, he2⟩) h3 (h4 w.drawn) hle'
          simpa [toV, storeCells] using this
        | str =>
          obtain ⟨h1, _, h3, h4⟩ := news_sound (P := P) H hx hn
          have hnil : news = [] := List.eq_nil_of_length_eq_zero (by simpa using h1)
          subst hnil
          have := append_room (P := P) (w := w) (ty := ty) (base := some ⟨ρ.m b, o, none⟩) hu hi (.inl hxk.1) h3 (h4 w.drawn) hle'
          simpa [toV, storeCells] using this
      · rename_i h0
        rw [beq_eq, decide_eq_false_iff_not] at h0
        split at hr
        · rename_i hg2
          simp only [Bool.and_eq_true] at hg2
          split at hr
          · rename_i hp hput
            simp only [ER.ok.injEq] at hr
            obtain ⟨rfl, rfl, rfl⟩ := hr
            obtain ⟨w', q1, q2, q3⟩ := put_sound (P := P) H hs ho hput
            refine ⟨ρ, w', ?_, hs, q2, q3⟩
            have := hroom (some ⟨ρ.m b, o, none⟩) len (if opn then cap + ρ.e b else cap) hle' h0 (Nat.le_of_ble_eq_true hg2.1) (Nat.le_of_ble_eq_true hg2.2)
            simp only [add_ptr] at this
            have q1 : Sem.run P (storeCells ⟨ρ.m b, o + len * i.size, none⟩ (news.map (toV ρ)) 0) w = .ok () w' := q1
            rw [q1] at this
            simpa [toV] using this
          · simp at hr
        · simp at hr
    · rename_i hle
      rw [ble_eq, decide_eq_false_iff_not] at hle
      have hle : ¬ (len + n ≤ cap) := hle
      split at hr
      · simp at hr
      · rename_i hb
        have hb : (len + n) * i.bytes ≤ 140737488355328 := Nat.le_of_ble_eq_true hb
        split at hr
        · simp at hr
        · rename_i olds hol
          obtain ⟨o1, o2, o3⟩ := rd_sound H hs hol
          have hboth : okvs ρ.d (olds ++ news) := okvs_append.2 ⟨o1, ho⟩
          have hfo : ∀ c, (Builtin.firstCells i.size len (.slice (some ⟨ρ.m b, o, none⟩) len c)).run P w.drew = .ok (olds.map (toV ρ)).toArray w.drew := fun c => run_rd (P := P) H.drew hs hol
          split at hr
          · -- the capacity is known
            obtain ⟨h1, _⟩ := growRow_spec hr
            have := hgrow (some ⟨ρ.m b, o, none⟩) len cap _ (hfo cap) (by omega) hb h1
            exact grow_eff (rest := Builtin.zeroCells z.cells (grownCap w (len + n) cap e - (len + n))) H hboth hr (grownCap_ge w (len + n) cap e) (by simp) (by rw [size_zeroCells, hzs]; rfl) this
          · split at hr
            · rename_i hop
              simp only [Bool.and_eq_true] at hop
              obtain ⟨hop, hnp, hG, hone⟩ := hop
              rw [blt_eq] at hnp
              have hnp := of_decide_eq_true hnp
              have hG : G ≤ b := Nat.le_of_ble_eq_true hG
              unfold openBlock at hop
              split at hop
              · rename_i c nb ty q hg
                simp only [Bool.and_eq_true, Nat.beq_eq] at hop
                obtain ⟨⟨rfl, rfl⟩, rfl, hcap⟩ := hop
                have hcap : cap * i.size = nb := hcap
                obtain ⟨h1, hnx, ob, hob, rfl, rfl, rfl⟩ := growRow_spec hr
                have h1 : len + n ≤ 1000000 := h1
                obtain ⟨cs, fr, hxx, k1, kk, k3, k4⟩ := H.cells hs hg
                by_cases hin : len + n ≤ cap + ρ.e b
                · -- in place
                  have hsz : cs.size = (cap + ρ.e b) * i.size := by rw [k1, ← hcap, Nat.add_mul]
                  have hlen2 : (len + n) * i.size ≤ cs.size := by rw [hsz]; exact Nat.mul_le_mul_right _ hin
                  rw [Nat.add_mul] at hlen2
                  have hfr : fr.1 = fr.2 := k3
                  obtain ⟨w', q1, q2⟩ := run_storeCells_gen (P := P) (ρ.m b) (0 + len * i.size) ty fr (news.map (toV ρ)) 0 cs w hxx (by rw [List.length_map, hl]; omega)
                    (fun v hv => by
                      obtain ⟨u, hu', rfl⟩ := List.mem_map.1 hv
                      exact one_toV ρ (allOne_spec news hone u hu'))
                    (fun j _ _ => by omega)
                  obtain ⟨hk', rfl⟩ := rowObj_spec hob
                  have hll : (olds ++ news).length = (len + n) * i.size := by
                    rw [List.length_append, o2, hl, Nat.add_mul]; rfl
                  have hrel : ORel ρ (cap + ρ.e b - (len + n)) (.cells (mkT (olds ++ news)) (olds ++ news).length ty .none i.size) (.cells (setArr (news.map (toV ρ)) cs (0 + len * i.size + 0)) ty fr) := by
                    refine ⟨_, fr, rfl, ?_, hk', hfr, fun j hj u hu' => ?_⟩
                    · rw [setArr_size, hsz, hll, ← Nat.add_mul]; congr 1; omega
                    · rw [mkT_get _ j hk' (Nat.lt_of_lt_of_le hj hk')] at hu'
                      refine ⟨(okvs_iff _ _).1 hboth u (List.mem_of_getElem? hu'), ?_⟩
                      rw [setArr_get _ _ _ _ (by rw [List.length_map, hl]; omega), List.length_map, hl]
                      have o2' : olds.length = len * i.size := o2
                      by_cases hj2 : j < len * i.size
                      · rw [if_neg (by omega)]
                        rw [List.getElem?_append_left (by omega)] at hu'
                        have := o3 j (toV ρ u) (by rw [List.getElem?_map, hu']; rfl)
                        rw [add_ptr, cell_of_row w _ _ cs ty fr hxx] at this
                        simpa using this
                      · rw [hll, Nat.add_mul] at hj
                        rw [if_pos (by omega), List.getElem?_map]
                        rw [List.getElem?_append_right (by omega), o2'] at hu'
                        rw [show j - (0 + len * i.size + 0) = j - len * i.size by omega, hu']; rfl
                  obtain ⟨H', E⟩ := H.move hg hs hG hnx (cap + ρ.e b - (len + n)) q2 hrel
                  obtain ⟨n1, n2⟩ := nv_toV ρ (.sl (len + n) (len + n) true) nx (ρ.m b) (cap + ρ.e b - (len + n))
                  refine ⟨_, w', ?_, n2, H', E⟩
                  show _ = Result.ok (toV (ρ.put nx (ρ.m b) (cap + ρ.e b - (len + n))) (nv (.sl (len + n) (len + n) true) nx)) w'
                  rw [n1]
                  have hbn : n * i.bytes ≤ 140737488355328 := Nat.le_trans (Nat.mul_le_mul_right _ (by omega)) hb
                  have := hroom (some ⟨ρ.m b, 0, none⟩) len (cap + ρ.e b) hin (by omega) (by omega) hbn
                  simp only [add_ptr] at this
                  rw [q1] at this
                  simp only [nvV, if_true, toV]
                  rw [this]
                  simp only [Result.andThen_ok]
                  congr 2
                  omega
                · -- a new row
                  obtain ⟨H', E⟩ := H.drop b (H.lt b hs) hs
                  have := hgrow (some ⟨ρ.m b, 0, none⟩) len (cap + ρ.e b) _ (hfo _) (by omega) hb h1
                  have r2 : growRow ty i.size (len + n) (olds ++ news) (h.del b) nx = .ok (.slice nx 0 (len + n) (len + n) true) ((h.del b).set nx ob) (nx + 1) := hr
                  obtain ⟨ρ', w', p1, p2, p3, p4⟩ := grow_eff (P := P) (rest := Builtin.zeroCells z.cells (grownCap w (len + n) (cap + ρ.e b) ty - (len + n))) H' hboth r2 (grownCap_ge w (len + n) (cap + ρ.e b) ty) (by simp) (by rw [size_zeroCells, hzs]) this
                  exact ⟨ρ', w', by simpa [toV] using p1, p2, p3, E.trans p4⟩
              · simp at hop
            · simp at hr

end
end Go.Vai
