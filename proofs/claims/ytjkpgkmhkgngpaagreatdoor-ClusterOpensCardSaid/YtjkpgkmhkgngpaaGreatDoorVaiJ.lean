/- Operations that make one new block. -/
import Derived.Test.YtjkpgkmhkgngpaaGreatDoorVaiI
import Derived.Laws.MakeOwn
namespace Go.Vai
open Go.RowKit

/-- the value that stands for a new block -/
inductive NV where
  | ptr
  | sl (len cap : Nat) (opn : Bool)
  | mp
def nv : NV → Nat → AV
  | .ptr, b => .ptr b 0
  | .sl l c o, b => .slice b 0 l c o
  | .mp, b => .map b
def nvV : NV → Nat → Nat → Value
  | .ptr, g, _ => .pointer (some ⟨g, 0, none⟩)
  | .sl l c o, g, e => .slice (some ⟨g, 0, none⟩) l (if o then c + e else c)
  | .mp, g, _ => .map (some g)
theorem nv_toV (ρ : Ren) (f : NV) (b g e : Nat) : toV (ρ.put b g e) (nv f b) = nvV f g e ∧ okv (ρ.put b g e).d (nv f b) := by
  cases f <;> simp [nv, nvV, toV, okv, Ren.put]

section
variable {G : Nat} {w0 : Base} {ρ : Ren} {h : Hp} {nx : Nat} {w : World} {P : Program}

/-- a run that makes one block -/
def NewAt (P : Program) (ρ : Ren) (w : World) (s : Sem Value) (o : AObj) (f : NV) : Prop :=
  ∃ n x e, ORel ρ e o x ∧ s.run P w = .ok (nvV f w.heap.size e) (({ w with drawn := n } : World).alloc x)

theorem HRel.drawn (H : HRel G w0 ρ h nx w) (n : Nat) : HRel G w0 ρ h nx { w with drawn := n } :=
  ⟨⟨H.below.os, H.below.tape, H.below.output, H.below.size, H.below.block⟩, H.lt, H.lim, H.gl, H.obj, H.own, H.inj, H.glob, H.arg, H.in_, H.top⟩

noncomputable def rowObj (l : List AV) (ty : TypeId) (fz : Fz) (opn : Nat) : Option AObj :=
  match Nat.ble l.length 1000000 with
  | true => some (.cells (mkT l) l.length ty fz opn)
  | false => none
theorem rowObj_spec {l : List AV} {ty : TypeId} {fz : Fz} {opn : Nat} {o : AObj} (ho : rowObj l ty fz opn = some o) : l.length ≤ keyMax ∧ o = .cells (mkT l) l.length ty fz opn := by
  unfold rowObj at ho
  split at ho
  · rename_i hb
    have := Nat.le_of_ble_eq_true hb
    simp only [Option.some.injEq] at ho
    exact ⟨by unfold keyMax; omega, ho.symm⟩
  · simp at ho

theorem rowObj_rel {l : List AV} {ty : TypeId} {o : AObj} {cs : Array Value} (ho : rowObj l ty .none 0 = some o) (hl : okvs ρ.d l) (hc : cs = (l.map (toV ρ)).toArray) :
    ORel ρ 0 o (.cells cs ty) := by
  obtain ⟨hk, rfl⟩ := rowObj_spec ho
  subst hc
  have := ORel_row (ρ := ρ) (ty := ty) (fz := .none) (fr := (0, 0)) hl hk #[] 0 0 rfl rfl
  simpa using this
theorem rowObj_open {l : List AV} {ty : TypeId} {o : AObj} {cs : Array Value} {fz : Fz} {fr : Nat × Nat} {k ex : Nat} (rest : Array Value) (ho : rowObj l ty fz k = some o) (hl : okvs ρ.d l)
    (hc : cs = (l.map (toV ρ)).toArray ++ rest) (hr : rest.size = ex * k) (hf : FzRel fz fr cs.size) : ORel ρ ex o (.cells cs ty fr) := by
  obtain ⟨hk, rfl⟩ := rowObj_spec ho
  subst hc
  exact ORel_row hl hk rest k ex hr (by simpa using hf)

/-! ### alloc, box -/
theorem alloc_new {t : TypeId} {l : List AV} {o : AObj} {old : Value} (hz : zeroA P t = some l) (ho : rowObj l t .none 0 = some o) :
    NewAt P ρ w (Instr.alloc t true old) o .ptr := by
  obtain ⟨i, z, hi, hzz, hzc, hzo⟩ := zeroA_spec hz
  refine ⟨w.drawn, .cells z.cells t, 0, rowObj_rel ho (hzo _) (hzc ρ).symm, ?_⟩
  show _ = Result.ok _ (w.alloc _)
  cases old <;> simp [Instr.alloc, zeroValue, run_typeInfo _ hi, hzz, newVar, newRow, nvV]
theorem box_new {t : TypeId} {v : AV} {o : AObj} (hv : okv ρ.d v) (ho : rowObj (cellsA v) t .none 0 = some o) : NewAt P ρ w (Instr.box t (toV ρ v)) o .ptr := by
  refine ⟨w.drawn, .cells (toV ρ v).cells t, 0, rowObj_rel ho (okvs_cells hv) (cells_toV' ρ v), ?_⟩
  show _ = Result.ok _ (w.alloc _)
  simp [Instr.box, newVar, newRow, nvV]

/-! ### slices of literals, make -/
/-- zero cells, n of them -/
def zerosL (zl : List AV) (k n : Nat) : List AV := (List.range n).map fun i => (nthL zl (Nat.mod i k)).getD undefA
theorem zerosL_spec {zl : List AV} {z : Array Value} {n : Nat} (hz : ∀ ρ : Ren, (zl.map (toV ρ)).toArray = z) (h0 : n ≠ 0 → z.size ≠ 0) (ho : ∀ d, okvs d zl) :
    ((zerosL zl zl.length n).map (toV ρ)).toArray = (Array.range n).map (fun i => z[i % z.size]!) ∧ ∀ d, okvs d (zerosL zl zl.length n) := by
  have hs : z.size = zl.length := by rw [← hz ρ]; simp
  constructor
  · apply Array.ext'
    simp only [zerosL, List.map_map, Array.toList_map, Array.toList_range]
    apply List.map_congr_left
    intro i hi
    have hn : n ≠ 0 := by rintro rfl; simp at hi
    have hpos := h0 hn
    have hlt : i % z.size < zl.length := by rw [← hs]; exact Nat.mod_lt _ (by omega)
    have e : i.mod zl.length = i % z.size := by rw [hs]; rfl
    simp only [Function.comp_apply, nthL_eq, e]
    rw [List.getElem?_eq_getElem hlt, Option.getD_some]
    rw [getElem!_pos z (i % z.size) (by omega)]
    have : z[i % z.size]'(by omega) = ((zl.map (toV ρ)).toArray)[i % z.size]'(by simpa using hlt) := by
      congr 1; exact (hz ρ).symm
    rw [this]; simp
  · intro d
    refine (okvs_iff _ _).2 fun v hv => ?_
    simp only [zerosL, List.mem_map, List.mem_range] at hv
    obtain ⟨i, _, rfl⟩ := hv
    cases hg : nthL zl (i.mod zl.length) with
    | none => exact trivial
    | some u =>
      rw [nthL_eq] at hg
      exact (okvs_iff _ _).1 (ho d) u (List.mem_of_getElem? hg)

/-- what is asked of an element: its size in cells and bytes, its zero's cells -/
def elemZ (P : Program) (t : TypeId) : Option (TypeId × Nat × Nat × List AV) :=
  match P.underlying t with
  | some (.slice e) => match P.info? e with
    | some i => match zeroA P e with
      | some zl => match Nat.beq zl.length i.size with
        | true => some (e, i.size, i.bytes, zl)
        | false => none
      | none => none
    | none => none
  | _ => none
theorem elemZ_spec {t e : TypeId} {k bytes : Nat} {zl : List AV} (ht : elemZ P t = some (e, k, bytes, zl)) :
    P.underlying t = some (.slice e) ∧ ∃ i z, P.info? e = some i ∧ i.zero = some z ∧ i.size = k ∧ i.bytes = bytes ∧ zl.length = k ∧ z.cells.size = k ∧
      (∀ ρ : Ren, (zl.map (toV ρ)).toArray = z.cells) ∧ ∀ d, okvs d zl := by
  unfold elemZ at ht
  split at ht
  · rename_i e' hu
    split at ht
    · rename_i i hi
      split at ht
      · rename_i zl' hz
        split at ht
        · rename_i hb
          simp only [Option.some.injEq, Prod.mk.injEq] at ht
          obtain ⟨rfl, rfl, rfl, rfl⟩ := ht
          rw [Nat.beq_eq] at hb
          obtain ⟨j, z, hj, hzz, hzc, hzo⟩ := zeroA_spec hz
          rw [hi] at hj; cases hj
          refine ⟨hu, i, z, hi, hzz, rfl, rfl, hb, ?_, hzc, hzo⟩
          rw [← hzc (⟨id, fun _ => True, id, fun _ => 0⟩ : Ren)]; simpa using hb
        · simp at ht
      · simp at ht
    · simp at ht
  · simp at ht

/-- parts of a slice's literal -/
def sliceParts (k : Nat) (ps : List (Nat × AV)) : List (Nat × Nat × AV) := ps.map fun p => (Nat.mul p.1 k, k, p.2)
noncomputable def fBuildSlice (e k len : Nat) (zeros : List AV) (ps : List (Nat × AV)) : Option (AObj × NV) :=
  match fillA (sliceParts k ps) zeros with
  | some l => match rowObj l e .none 0 with
    | some o => some (o, .sl len len false)
    | none => none
  | none => none
theorem fill_length : ∀ (qs : List (Nat × Nat × AV)) (cells r : List AV), fillA qs cells = some r → r.length = cells.length
  | [], cells, r, hr => by simp only [fillA, Option.some.injEq] at hr; subst hr; rfl
  | (off, size, v) :: qs, cells, r, hr => by
    simp only [fillA] at hr
    split at hr
    · rename_i hb
      simp only [Bool.and_eq_true, Nat.beq_eq] at hb
      have hb2 : off + size ≤ cells.length := Nat.le_of_ble_eq_true hb.2
      rw [fill_length qs _ r hr, segL_length]
      omega
    · simp at hr
theorem buildSlice_new {t e : TypeId} {k bytes len : Nat} {zl : List AV} {ps : List (Nat × AV)} {o : AObj} {f : NV} (ht : elemZ P t = some (e, k, bytes, zl)) (hk : k ≠ 0)
    (hl : len * k ≤ 16777216) (hp : ∀ p ∈ ps, okv ρ.d p.2) (hr : fBuildSlice e k len (zerosL zl k (len * k)) ps = some (o, f)) :
    NewAt P ρ w (Instr.buildSlice t len ((ps.map fun p => (p.1, toV ρ p.2)).toArray)) o f := by
  obtain ⟨hu, i, z, hi, hzz, rfl, rfl, hzl, hzs, hzc, hzo⟩ := elemZ_spec ht
  unfold fBuildSlice at hr
  split at hr
  · rename_i l hfl
    split at hr
    · rename_i ob hob
      simp only [Option.some.injEq, Prod.mk.injEq] at hr
      obtain ⟨rfl, rfl⟩ := hr
      obtain ⟨z1, z2⟩ := zerosL_spec (ρ := ρ) (n := len * i.size) hzc (fun _ => by rw [hzs]; exact hk) hzo
      rw [hzl] at z1 z2
      have hq : (ps.map fun p => ((fun j => some (j * i.size, i.size) : Nat → Option (Nat × Nat)) p.1).map fun q => (q.1, q.2, p.2)) = (sliceParts i.size ps).map some := by
        simp [sliceParts]
      obtain ⟨h1, h2⟩ := fillA_sound (ρ := ρ) (fun j => some (j * i.size, i.size)) ps _ _ l hq hp (z2 _) hfl
      rw [z1] at h1
      refine ⟨w.drawn, .cells (l.map (toV ρ)).toArray e, 0, rowObj_rel hob h2 rfl, ?_⟩
      have hn : ¬ (16777216 < len * i.size) := by omega
      by_cases h0 : len * i.size = 0
      · have : len = 0 := by
          rcases Nat.mul_eq_zero.1 h0 with h | h
          · exact h
          · exact absurd h hk
        subst this
        have e0 : ∀ f : Nat → Value, (Array.range (0 * i.size)).map f = #[] := by intro f; apply Array.eq_empty_of_size_eq_zero; simp
        rw [e0] at h1
        simp only [Instr.buildSlice, Sem.run_bind, run_underlying hu, Result.andThen_ok, sizeOf, run_typeInfo _ hi, Sem.run_pure]
        have hn' : ¬ (0 * i.size > 2 ^ 24) := by omega
        rw [if_neg hn', if_pos (Nat.zero_mul _)]
        simp only [e0, h1]
        show _ = Result.ok _ (w.alloc _)
        simp [newRow, nvV]
      · simp only [Instr.buildSlice, Sem.run_bind, run_underlying hu, Result.andThen_ok, sizeOf, run_typeInfo _ hi, Sem.run_pure, zeroValue]
        have hn' : ¬ (len * i.size > 2 ^ 24) := by omega
        rw [if_neg hn', if_neg h0]
        simp only [Sem.run_bind, Sem.run_pure, Result.andThen_ok, run_typeInfo _ hi, hzz]
        simp only [h1]
        show _ = Result.ok _ (w.alloc _)
        simp [newRow, nvV]
    · simp at hr
  · simp at hr

noncomputable def fMakeSlice (e k bytes : Nat) (zl : List AV) (len cap : AV) : Option (AObj × NV) :=
  match cap with
  | .int _ c => match c with
    | .ofNat c => match Nat.ble (Nat.mul bytes c) 281474976710656 with
      | true => match Nat.ble c 1000000 with
        | true => match idx len (Nat.succ c) with
          | some l => match rowObj (zerosL zl k (Nat.mul c k)) e .none 0 with
            | some o => some (o, .sl l c false)
            | none => none
          | none => none
        | false => none
      | false => none
    | .negSucc _ => none
  | _ => none
theorem makeSlice_new {t e : TypeId} {k bytes : Nat} {zl : List AV} {len cap : AV} {o : AObj} {f : NV} (ht : elemZ P t = some (e, k, bytes, zl)) (hk : k ≠ 0)
    (hr : fMakeSlice e k bytes zl len cap = some (o, f)) : NewAt P ρ w (Instr.makeSlice t (toV ρ len) (toV ρ cap)) o f := by
  obtain ⟨hu, i, z, hi, hzz, rfl, rfl, hzl, hzs, hzc, hzo⟩ := elemZ_spec ht
  unfold fMakeSlice at hr
  split at hr
  · rename_i kc c
    split at hr
    · rename_i c
      split at hr
      · rename_i hb
        have hb := Nat.le_of_ble_eq_true hb
        split at hr
        · rename_i hc
          have hc := Nat.le_of_ble_eq_true hc
          split at hr
          · rename_i l hl
            split at hr
            · rename_i ob hob
              simp only [Option.some.injEq, Prod.mk.injEq] at hr
              obtain ⟨rfl, rfl⟩ := hr
              obtain ⟨hlt, kl, rfl⟩ := idx_spec hl
              obtain ⟨z1, z2⟩ := zerosL_spec (ρ := ρ) (n := c * i.size) hzc (fun _ => by rw [hzs]; exact hk) hzo
              rw [hzl] at z1 z2
              have := run_make (P := P) w t e i z hu hi hzz kl kc (l : Int) (c : Int) (by omega) (by omega) (by
                have hb' : i.bytes * c ≤ 281474976710656 := hb
                rw [← Int.natCast_mul]
                exact Int.ofNat_le.2 hb') (by omega)
              refine ⟨w.drawn, .cells (madeCells z.cells (c * i.size)) e, 0, rowObj_rel hob (z2 _) z1.symm, ?_⟩
              show _ = Result.ok _ (w.alloc _)
              rw [Int.toNat_natCast, Int.toNat_natCast] at this
              exact this
            · simp at hr
          · simp at hr
        · simp at hr
      · simp at hr
    · simp at hr
  · simp at hr

/-! ### []byte(s) -/
def strBytes : Nat → Nat → List AV
  | 0, _ => []
  | k + 1, n => .int .u8 (.ofNat (Nat.mod n 256)) :: strBytes k (Nat.div n 256)
theorem strBytes_spec : ∀ (k n : Nat), (strBytes k n).map (toV ρ) = (bytesOf k n).map (fun b => Value.int .u8 b.toNat) ∧ (strBytes k n).length = k ∧ ∀ d, okvs d (strBytes k n)
  | 0, _ => ⟨rfl, rfl, fun _ => trivial⟩
  | k + 1, n => by
    obtain ⟨h1, h2, h3⟩ := strBytes_spec k (n / 256)
    refine ⟨?_, by simp only [strBytes, List.length_cons]; exact congrArg (· + 1) h2, fun d => ⟨trivial, h3 d⟩⟩
    simp only [strBytes, List.map_cons, bytesOf]
    congr 1
    simp only [toV]
    congr 1
    have : (UInt8.ofNat (n % 256)).toNat = n % 256 := by rw [UInt8.toNat_ofNat']; omega
    rw [this]; rfl
noncomputable def fStrBytes (e : TypeId) (v : AV) : Option (AObj × NV) :=
  match v with
  | .str len n => match rowObj (strBytes len n) e .mark 1 with
    | some o => some (o, .sl len len true)
    | none => none
  | .lstr len c l => match bytesL c l len 0 with
    | some r => match rowObj r e .mark 1 with
      | some o => some (o, .sl len len true)
      | none => none
    | none => none
  | _ => none
theorem strBytes_new {src dst e : TypeId} {v : AV} {o : AObj} {f : NV} (hs : P.underlying src = some .string) (hd : P.underlying dst = some (.slice e)) (he : P.underlying e = some (.int .u8))
    (hr : fStrBytes e v = some (o, f)) : NewAt P ρ w (convert src dst (toV ρ v)) o f := by
  have main : ∀ (len n : Nat) (lb : List AV) (ob : AObj), rowObj lb e .mark 1 = some ob → lb.map (toV ρ) = (bytesOf len n).map (fun b => Value.int .u8 b.toNat) → lb.length = len → okvs ρ.d lb →
      NewAt P ρ w (convert src dst (.string (strOf len n))) ob (.sl len len true) := by
    intro len n lb ob hob h1 h2 h3
    have hrun := run_bytes_of_string (P := P) w src dst e (strOf len n) hs hd he
    have hge := grownCap_ge w len 0 e
    rw [strOf_size] at hrun
    refine ⟨w.drawn + 1, .cells (bytesRow (strOf len n) (grownCap w len 0 e)) e ((bytesRow (strOf len n) (grownCap w len 0 e)).size, (bytesRow (strOf len n) (grownCap w len 0 e)).size + 1), grownCap w len 0 e - len, ?_, ?_⟩
    · refine rowObj_open (Array.replicate (grownCap w len 0 e - len) (.int .u8 0)) hob h3 ?_ (by simp) (.inr rfl)
      rw [h1]
      simp only [bytesRow, strOf_size]
      congr 1
      simp [strOf]
    · rw [hrun]
      simp only [nvV, if_true]
      rw [show len + (grownCap w len 0 e - len) = grownCap w len 0 e by omega]
      rfl
  cases v <;> try (simp [fStrBytes] at hr; done)
  · rename_i len n
    simp only [fStrBytes] at hr
    split at hr
    · rename_i ob hob
      simp only [Option.some.injEq, Prod.mk.injEq] at hr
      obtain ⟨rfl, rfl⟩ := hr
      obtain ⟨h1, h2, h3⟩ := strBytes_spec (ρ := ρ) len n
      exact main len n _ ob hob h1 h2 (h3 _)
    · simp at hr
  · rename_i len c l
    simp only [fStrBytes] at hr
    split at hr
    · rename_i lb hb
      split at hr
      · rename_i ob hob
        simp only [Option.some.injEq, Prod.mk.injEq] at hr
        obtain ⟨rfl, rfl⟩ := hr
        obtain ⟨h1, h2, h3⟩ := bytesL_spec ρ hb
        exact main len _ _ ob hob h1 h2 (h3 _)
      · simp at hr
    · simp at hr

/-! ### ranging over a string; maps -/
def fRangeStr (v : AV) : Option (AObj × NV) :=
  match v with
  | .str len n => some (.iter len n 0, .ptr)
  | .lstr len c l => some (.liter len c l 0, .ptr)
  | _ => none
theorem rangeStr_new {t : TypeId} {v : AV} {o : AObj} {f : NV} (ht : P.underlying t = some .string) (hv : okv ρ.d v) (hr : fRangeStr v = some (o, f)) :
    NewAt P ρ w (Instr.range t (toV ρ v)) o f := by
  cases v <;> try (simp [fRangeStr] at hr; done)
  · rename_i len n
    simp only [fRangeStr, Option.some.injEq, Prod.mk.injEq] at hr
    obtain ⟨rfl, rfl⟩ := hr
    exact ⟨w.drawn, .stringIter (strOf len n) 0, 0, ⟨rfl, hv⟩, by show _ = Result.ok _ (w.alloc _); simp [Instr.range, run_underlying ht, toV, nvV]⟩
  · rename_i len c l
    simp only [fRangeStr, Option.some.injEq, Prod.mk.injEq] at hr
    obtain ⟨rfl, rfl⟩ := hr
    exact ⟨w.drawn, .stringIter (strOf len (linV ρ.s c l).toNat) 0, 0, rfl, by show _ = Result.ok _ (w.alloc _); simp [Instr.range, run_underlying ht, toV, nvV]⟩

/-! ### bytealg.MakeNoZero: bytes that nobody knows -/
noncomputable def fMakeNoZero (e : TypeId) (v : AV) : Option (AObj × NV) :=
  match v with
  | .int .i64 n => match n with
    | .ofNat n => match Nat.ble n 1000000 with
      | true => some (.cells .leaf n e .none 1, .sl n n true)
      | false => none
    | .negSucc _ => none
  | _ => none
theorem digits_size : ∀ (n t : Nat) (acc : Array Value), (Extern.BytealgMakeNoZero.digits n t acc).size = acc.size + n
  | 0, _, _ => rfl
  | n + 1, t, acc => by rw [Extern.BytealgMakeNoZero.digits, digits_size n]; simp; omega
theorem makeNoZero_eq (params results : Array TypeId) (n : Int) : Extern.BytealgMakeNoZero.makeNoZero params results #[.int .i64 n] = (do
    let some t := results[0]? | stuck "bytealg.MakeNoZero: no result type"
    let .slice elem ← underlying t | stuck "bytealg.MakeNoZero: slice type expected"
    if n < 0 || n > 2 ^ 48 then runtimePanic (.error "makeslice: len out of range")
    let cap ← choose (.appendCap n.toNat 0 elem)
    askRoom cap
    let bytes ← choose (.extern "internal/bytealg.MakeNoZero.bytes" 0)
    let a ← newRow elem (Extern.BytealgMakeNoZero.digits cap bytes #[])
    pure (.slice (some a) n.toNat cap)) := rfl
theorem makeNoZero_new {params results : Array TypeId} {t e : TypeId} {v : AV} {o : AObj} {f : NV} (h0 : results[0]? = some t) (ht : P.underlying t = some (.slice e)) (hr : fMakeNoZero e v = some (o, f)) :
    NewAt P ρ w (Extern.BytealgMakeNoZero.makeNoZero params results #[toV ρ v]) o f := by
  unfold fMakeNoZero at hr
  split at hr
  · split at hr
    · rename_i n
      split at hr
      · rename_i hb
        have hb := Nat.le_of_ble_eq_true hb
        simp only [Option.some.injEq, Prod.mk.injEq] at hr
        obtain ⟨rfl, rfl⟩ := hr
        have h1 : ¬ ((n : Int) < 0 ∨ 281474976710656 < (n : Int)) := by omega
        have hge := grownCap_ge w n 0 e
        refine ⟨w.drawn + 2, .cells (Extern.BytealgMakeNoZero.digits (grownCap w n 0 e) ((Question.extern "internal/bytealg.MakeNoZero.bytes" 0).cut (w.tape (w.drawn + 1) (.extern "internal/bytealg.MakeNoZero.bytes" 0))) #[]) e, grownCap w n 0 e - n, ?_, ?_⟩
        · refine ⟨_, (0, 0), rfl, by rw [digits_size]; simp; omega, by unfold keyMax; omega, rfl, fun i hi u hu => ?_⟩
          rw [get_leaf] at hu; cases hu
        · simp only [nvV, if_true]
          rw [show n + (grownCap w n 0 e - n) = grownCap w n 0 e by omega]
          show (Extern.BytealgMakeNoZero.makeNoZero params results #[.int .i64 (n : Int)]).run P w = Result.ok _ ((w.drew.drew).alloc _)
          rw [makeNoZero_eq]
          simp [h0, run_underlying ht, h1, Question.forced, newRow, grownCap]
      · simp at hr
    · simp at hr
  · simp at hr

end
end Go.Vai
