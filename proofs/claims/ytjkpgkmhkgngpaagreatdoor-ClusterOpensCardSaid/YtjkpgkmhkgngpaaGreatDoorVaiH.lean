/- Places, slices, conversions, builtins. -/
import Derived.Test.YtjkpgkmhkgngpaaGreatDoorVaiG
namespace Go.Vai
open Go.RowKit

section
variable {G : Nat} {w0 : Base} {ρ : Ren} {h : Hp} {nx : Nat} {w : World} {P : Program}

/-! ### numbers as indexes -/
/-- a number from 0 to below n, as a Nat -/
def idx (v : AV) (n : Nat) : Option Nat :=
  match v with
  | .int _ i => match i with
    | .ofNat m => match Nat.blt m n with
      | true => some m
      | false => none
    | .negSucc _ => none
  | _ => none
theorem idx_spec {v : AV} {n m : Nat} (hv : idx v n = some m) : m < n ∧ ∃ k, v = .int k (m : Int) := by
  unfold idx at hv
  split at hv
  · rename_i k i
    split at hv
    · rename_i q
      split at hv
      · rename_i hb
        simp only [Option.some.injEq] at hv; subst hv
        rw [blt_eq] at hb
        exact ⟨of_decide_eq_true hb, k, rfl⟩
      · simp at hv
    · simp at hv
  · simp at hv

/-! ### fieldAddr, field -/
def fieldOf (P : Program) (s : TypeId) (f : Nat) : Option Field :=
  match P.underlying s with
  | some (.struct fs) => nthL fs.toList f
  | _ => none
theorem fieldOf_spec {s : TypeId} {f : Nat} {fd : Field} (hf : fieldOf P s f = some fd) : ∃ fs, P.underlying s = some (.struct fs) ∧ fs[f]? = some fd := by
  unfold fieldOf at hf
  split at hf
  · rename_i fs hu
    rw [nthL_eq] at hf
    exact ⟨fs, hu, by simpa using hf⟩
  · simp at hf

def fFieldAddr (off : Nat) (v : AV) : Option AV :=
  match v with
  | .ptr b o => some (.ptr b (Nat.add o off))
  | _ => none
/-- the offset of a field that takes room -/
def fieldOff (P : Program) (s : TypeId) (f : Nat) : Option Nat :=
  match fieldOf P s f with
  | some fd => match P.info? fd.type with
    | some i => match Nat.beq i.size 0 with
      | true => none
      | false => some fd.offset
    | none => none
  | none => none
theorem add_ptr (g o j : Nat) : (⟨g, o, none⟩ : Addr).add j = ⟨g, o + j, none⟩ := add_off g o j
theorem fieldAddr_sound {s : TypeId} {f off : Nat} {v r : AV} (hf : fieldOff P s f = some off) (hv : okv ρ.d v) (hr : fFieldAddr off v = some r) :
    (Instr.fieldAt s (toV ρ v) f).run P w = .ok (toV ρ r) w ∧ okv ρ.d r := by
  unfold fieldOff at hf
  split at hf
  · rename_i fd hfd
    split at hf
    · rename_i i hi
      split at hf
      · simp at hf
      · rename_i hz
        simp only [Option.some.injEq] at hf; subst hf
        obtain ⟨fs, hu, hfs⟩ := fieldOf_spec hfd
        cases v <;> try (simp [fFieldAddr] at hr; done)
        simp only [fFieldAddr, Option.some.injEq] at hr; subst hr
        rw [beq_eq, decide_eq_false_iff_not] at hz
        refine ⟨?_, hv⟩
        simp [Instr.fieldAt, run_underlying hu, hfs, Instr.sureAddr, toV, fieldPlace, sizeOf, run_typeInfo _ hi, hz, add_ptr]
    · simp at hf
  · simp at hf

def fField (agg : Bool) (k off : Nat) (v : AV) : Option AV :=
  match v with
  | .agg cs => partA agg k off cs
  | _ => none
theorem field_sound {s : TypeId} {f : Nat} {fd : Field} {agg : Bool} {k : Nat} {v r : AV} (hf : fieldOf P s f = some fd) (ht : tInfo P fd.type = some (agg, k))
    (hv : okv ρ.d v) (hr : fField agg k fd.offset v = some r) : (Instr.field s (toV ρ v) f).run P w = .ok (toV ρ r) w ∧ okv ρ.d r := by
  obtain ⟨fs, hu, hfs⟩ := fieldOf_spec hf
  cases v <;> try (simp [fField] at hr; done)
  obtain ⟨h1, h2⟩ := part_sound ht hv hr w
  refine ⟨?_, h2⟩
  simp [Instr.field, run_underlying hu, hfs, asAgg, toV, h1]

/-! ### indexAddr, index -/
/-- the places of elements -/
def offAll (n k o : Nat) : List Int → Option (List Nat)
  | [] => some []
  | v :: l => match v with
    | .ofNat m => match Nat.blt m n with
      | true => match offAll n k o l with
        | some r => some (Nat.add o (Nat.mul m k) :: r)
        | none => none
      | false => none
    | .negSucc _ => none
theorem offAll_spec {n k o : Nat} : ∀ {vs : List Int} {os : List Nat}, offAll n k o vs = some os → os.length = vs.length ∧ ∀ (i : Nat) (a : Int), vs[i]? = some a → ∃ m : Nat, a = (m : Int) ∧ m < n ∧ os[i]? = some (o + m * k)
  | [], os, e => by simp only [offAll, Option.some.injEq] at e; subst e; exact ⟨rfl, fun i o ho => by simp at ho⟩
  | v :: l, os, e => by
    simp only [offAll] at e
    split at e
    · rename_i m
      split at e
      · rename_i hm
        rw [blt_eq] at hm
        have hm := of_decide_eq_true hm
        split at e
        · rename_i r hr
          simp only [Option.some.injEq] at e; subst e
          obtain ⟨h1, h2⟩ := offAll_spec hr
          refine ⟨by simp [h1], fun i a ha => ?_⟩
          cases i with
          | zero => simp at ha; subst ha; exact ⟨m, rfl, hm, rfl⟩
          | succ i =>
            obtain ⟨r', g1, g2, g3⟩ := h2 i a (by simpa using ha)
            exact ⟨r', g1, g2, by simpa using g3⟩
        · simp at e
      · simp at e
    · simp at e
def idxTab (n k b o : Nat) (i : AV) : Option AV := match viewA i with
  | some X => match X.u with
    | some p => match offAll n k o X.vs with
      | some os => some (.tptr b p.1 p.2 os)
      | none => none
    | none => none
  | none => none
theorem idxTab_spec {n k b o : Nat} {i r : AV} (h : idxTab n k b o i = some r) {d : Nat → Prop} (hd : d b) (ρ : Ren) : okv d r ∧ ∃ kk, ∃ m : Nat, toV ρ i = .int kk (m : Int) ∧ m < n ∧ toV ρ r = .pointer (some ⟨ρ.m b, o + m * k, none⟩) := by
  unfold idxTab at h
  split at h
  · rename_i X hX
    split at h
    · rename_i p hp
      split at h
      · rename_i os hos
        simp only [Option.some.injEq] at h; subst h
        obtain ⟨x1, _, _, x4⟩ := viewA_spec hX
        obtain ⟨a, ha, ha2⟩ := x4 ρ
        obtain ⟨l1, l2⟩ := offAll_spec hos
        obtain ⟨m, rfl, hm, ho⟩ := l2 _ _ ha
        refine ⟨hd, _, m, ha2, hm, ?_⟩
        rw [hp] at ho
        simp only [ixU] at ho
        rw [← l1] at ho
        simp only [toV]
        rw [List.getD_eq_getElem?_getD, ho]; rfl
      · simp at h
    · simp at h
  · simp at h
def fIdxSlice (k : Nat) (x i : AV) : Option AV :=
  match x with
  | .slice b o len _ _ => match idx i len with
    | some m => some (.ptr b (Nat.add o (Nat.mul m k)))
    | none => idxTab len k b o i
  | .aslice a len _ => match Nat.beq k 1 with
    | true => match idx i len with
      | some m => some (.aptr a m)
      | none => none
    | false => none
  | _ => none
def fIdxArr (n k : Nat) (x i : AV) : Option AV :=
  match x with
  | .ptr b o => match idx i n with
    | some m => some (.ptr b (Nat.add o (Nat.mul m k)))
    | none => idxTab n k b o i
  | _ => none
/-- the size of an element: of a slice ('none' before it) or an array of so many -/
def elemInfo (P : Program) (t : TypeId) : Option (Option Nat × TypeId × Nat) :=
  match P.underlying t with
  | some (.slice e) => match P.info? e with
    | some i => some (none, e, i.size)
    | none => none
  | some (.array n e) => match P.info? e with
    | some i => some (some n, e, i.size)
    | none => none
  | _ => none
theorem elemInfo_slice {t e : TypeId} {k : Nat} (ht : elemInfo P t = some (none, e, k)) : P.underlying t = some (.slice e) ∧ ∃ i, P.info? e = some i ∧ i.size = k := by
  unfold elemInfo at ht
  split at ht
  · rename_i e' hu
    split at ht
    · rename_i i hi
      simp only [Option.some.injEq, Prod.mk.injEq, true_and] at ht
      obtain ⟨rfl, rfl⟩ := ht
      exact ⟨hu, i, hi, rfl⟩
    · simp at ht
  · split at ht <;> simp at ht
  · simp at ht
theorem elemInfo_arr {t e : TypeId} {n k : Nat} (ht : elemInfo P t = some (some n, e, k)) : P.underlying t = some (.array n e) ∧ ∃ i, P.info? e = some i ∧ i.size = k := by
  unfold elemInfo at ht
  split at ht
  · split at ht <;> simp at ht
  · rename_i n' e' hu
    split at ht
    · rename_i i hi
      simp only [Option.some.injEq, Prod.mk.injEq] at ht
      obtain ⟨rfl, rfl, rfl⟩ := ht
      exact ⟨hu, i, hi, rfl⟩
    · simp at ht
  · simp at ht

theorem idxSlice_sound {t e : TypeId} {k : Nat} {x i r : AV} (ht : elemInfo P t = some (none, e, k)) (hx : okv ρ.d x) (hr : fIdxSlice k x i = some r) :
    (Instr.indexAt t (toV ρ x) (toV ρ i)).run P w = .ok (toV ρ r) w ∧ okv ρ.d r := by
  obtain ⟨hu, j, hj, rfl⟩ := elemInfo_slice ht
  cases x <;> try (simp [fIdxSlice] at hr; done)
  · simp only [fIdxSlice] at hr
    split at hr
    · rename_i b o len cap opn _ m hm
      simp only [Option.some.injEq] at hr; subst hr
      obtain ⟨hlt, kk, rfl⟩ := idx_spec hm
      refine ⟨?_, hx⟩
      simp [Instr.indexAt, asIntOf, run_underlying hu, toV, sizeOf, run_typeInfo _ hj, add_ptr, hlt]
    · obtain ⟨g1, kk, m, g2, hlt, g3⟩ := idxTab_spec hr (d := ρ.d) hx ρ
      refine ⟨?_, g1⟩
      rw [g2, g3]
      simp [Instr.indexAt, asIntOf, run_underlying hu, toV, sizeOf, run_typeInfo _ hj, add_ptr, hlt]
  · rename_i a len cap
    simp only [fIdxSlice] at hr
    split at hr
    · rename_i hk
      have hk : j.size = 1 := Nat.eq_of_beq_eq_true hk
      split at hr
      · rename_i m hm
        simp only [Option.some.injEq] at hr; subst hr
        obtain ⟨hlt, kk, rfl⟩ := idx_spec hm
        refine ⟨?_, hx⟩
        simp [Instr.indexAt, asIntOf, run_underlying hu, toV, sizeOf, run_typeInfo _ hj, add_ptr, hlt, hk]
      · simp at hr
    · simp at hr
theorem idxArr_sound {t e : TypeId} {n k : Nat} {x i r : AV} (ht : elemInfo P t = some (some n, e, k)) (hx : okv ρ.d x) (hr : fIdxArr n k x i = some r) :
    (Instr.indexAt t (toV ρ x) (toV ρ i)).run P w = .ok (toV ρ r) w ∧ okv ρ.d r := by
  obtain ⟨hu, j, hj, rfl⟩ := elemInfo_arr ht
  cases x <;> try (simp [fIdxArr] at hr; done)
  simp only [fIdxArr] at hr
  split at hr
  · rename_i b o _ m hm
    simp only [Option.some.injEq] at hr; subst hr
    obtain ⟨hlt, kk, rfl⟩ := idx_spec hm
    refine ⟨?_, hx⟩
    simp [Instr.indexAt, asIntOf, run_underlying hu, toV, sizeOf, run_typeInfo _ hj, add_ptr, hlt, Instr.sureAddr]
  · obtain ⟨g1, kk, m, g2, hlt, g3⟩ := idxTab_spec hr (d := ρ.d) hx ρ
    refine ⟨?_, g1⟩
    rw [g2, g3]
    simp [Instr.indexAt, asIntOf, run_underlying hu, toV, sizeOf, run_typeInfo _ hj, add_ptr, hlt, Instr.sureAddr]

def strAll (len n : Nat) : List Int → Option (List AV)
  | [] => some []
  | v :: l => match v with
    | .ofNat m => match Nat.blt m len with
      | true => match strAll len n l with
        | some r => some (.int .u8 (.ofNat (byteAt n m)) :: r)
        | none => none
      | false => none
    | .negSucc _ => none
theorem strAll_spec {len n : Nat} : ∀ {vs : List Int} {rs : List AV}, strAll len n vs = some rs → rs.length = vs.length ∧ (∀ d, okvs d rs) ∧ ∀ (i : Nat) (a : Int), vs[i]? = some a → ∃ m : Nat, a = (m : Int) ∧ m < len ∧ rs[i]? = some (.int .u8 (.ofNat (byteAt n m)))
  | [], os, e => by simp only [strAll, Option.some.injEq] at e; subst e; exact ⟨rfl, fun _ => trivial, fun i o ho => by simp at ho⟩
  | v :: l, os, e => by
    simp only [strAll] at e
    split at e
    · rename_i m
      split at e
      · rename_i hm
        rw [blt_eq] at hm
        have hm := of_decide_eq_true hm
        split at e
        · rename_i r hr
          simp only [Option.some.injEq] at e; subst e
          obtain ⟨h1, h3, h2⟩ := strAll_spec hr
          refine ⟨by simp [h1], fun d => ⟨trivial, h3 d⟩, fun i a ha => ?_⟩
          cases i with
          | zero => simp at ha; subst ha; exact ⟨m, rfl, hm, rfl⟩
          | succ i =>
            obtain ⟨r', g1, g2, g3⟩ := h2 i a (by simpa using ha)
            exact ⟨r', g1, g2, by simpa using g3⟩
        · simp at e
      · simp at e
    · simp at e
def strTab (len n : Nat) (i : AV) : Option AV := match viewA i with
  | some X => match strAll len n X.vs with
    | some rs => gatherU X.u rs
    | none => none
  | none => none
theorem strTab_spec {len n : Nat} {i r : AV} (h : strTab len n i = some r) (ρ : Ren) : okv ρ.d r ∧ ∃ kk, ∃ m : Nat, toV ρ i = .int kk (m : Int) ∧ m < len ∧ toV ρ r = .int .u8 (.ofNat (byteAt n m)) := by
  unfold strTab at h
  split at h
  · rename_i X hX
    split at h
    · rename_i rs hrs
      obtain ⟨x1, _, _, x4⟩ := viewA_spec hX
      obtain ⟨a, ha, ha2⟩ := x4 ρ
      obtain ⟨l1, l3, l2⟩ := strAll_spec hrs
      obtain ⟨m, rfl, hm, ho⟩ := l2 _ _ ha
      rw [← l1] at ho
      obtain ⟨g1, g2⟩ := gatherU_spec h ρ ho (l3 ρ.d)
      exact ⟨g2, _, m, ha2, hm, g1⟩
    · simp at h
  · simp at h
def fIndexStr (x i : AV) : Option AV :=
  match x with
  | .str len n => match idx i len with
    | some m => some (.int .u8 (.ofNat (byteAt n m)))
    | none => strTab len n i
  | .lstr len c l => match idx i len with
    | some m => match byteL c l m with
      | some (b, q) => mkLin .u8 b q
      | none => none
    | none => none
  | _ => none
theorem strOf_get (len n i : Nat) (hi : i < len) : (strOf len n)[i]? = some (UInt8.ofNat (byteAt n i)) := by
  have h1 : i < (strOf len n).size := by rw [strOf_size]; exact hi
  rw [Go.ByteArray.getElem?_lt' _ _ h1]
  congr 1
  show (strOf len n).data[i] = _
  simp only [strOf, List.getElem_toArray]
  exact bytesOf_get len n i _
theorem indexStr_sound {t : TypeId} {x i r : AV} (ht : P.underlying t = some .string) (hr : fIndexStr x i = some r) :
    (Instr.index t (toV ρ x) (toV ρ i)).run P w = .ok (toV ρ r) w ∧ okv ρ.d r := by
  have main0 : ∀ (len n m : Nat) (kk : IntKind), m < len → (Instr.index t (.string (strOf len n)) (.int kk (m : Int))).run P w = .ok (.int .u8 (.ofNat (byteAt n m))) w := by
    intro len n m kk hlt
    have hb := byteAt_lt n m
    simp only [Instr.index, asIntOf, Sem.run_bind, Sem.run_pure, Result.andThen_ok, run_underlying ht]
    rw [if_pos (by omega), Int.toNat_natCast, strOf_get len n m hlt]
    simp only [Sem.run_pure]
    congr 2
    show (((UInt8.ofNat (byteAt n m)).toNat : Nat) : Int) = ((byteAt n m : Nat) : Int)
    rw [UInt8.toNat_ofNat', Nat.mod_eq_of_lt (by simpa using hb)]
  have main : ∀ len n m : Nat, idx i len = some m → (Instr.index t (.string (strOf len n)) (toV ρ i)).run P w = .ok (.int .u8 (.ofNat (byteAt n m))) w := by
    intro len n m hm
    obtain ⟨hlt, kk, rfl⟩ := idx_spec hm
    exact main0 len n m kk hlt
  cases x <;> try (simp [fIndexStr] at hr; done)
  · simp only [fIndexStr] at hr
    split at hr
    · rename_i len n _ m hm
      simp only [Option.some.injEq] at hr; subst hr
      exact ⟨main _ _ _ hm, trivial⟩
    · obtain ⟨g1, kk, m, g2, hlt, g3⟩ := strTab_spec hr ρ
      exact ⟨by rw [g2, g3]; exact main0 _ _ m kk hlt, g1⟩
  · simp only [fIndexStr] at hr
    split at hr
    · rename_i len c l _ m hm
      split at hr
      · rename_i b q hb
        obtain ⟨h1, _, h3⟩ := mkLin_spec hr ρ
        rw [byteL_spec hb ρ.s] at h1
        exact ⟨by rw [h1]; exact main _ _ _ hm, h3 _⟩
      · simp at hr
    · simp at hr
def sxAgg (cs : List AV) (i : AV) : Option AV := match cs with
  | .int k a :: l => match intsOf k (.int k a :: l) with
    | some vs => sxTab k vs i
    | none => none
  | _ => none
theorem sxAgg_spec {cs : List AV} {i r : AV} (h : sxAgg cs i = some r) (ρ : Ren) {d : Nat → Prop} (hi : okv d i) : okv d r ∧ ∃ kk, ∃ m : Nat, m < 256 ∧ toV ρ i = .int kk (m : Int) ∧ ∃ v, cs[m]? = some v ∧ oneA v = true ∧ toV ρ r = toV ρ v := by
  unfold sxAgg at h
  split at h
  · rename_i k a l
    split at h
    · rename_i vs hvs
      obtain ⟨hl, ⟨kk, m, hm, e1, v, e2, e3⟩, h2⟩ := sxTab_spec h ρ hi
      refine ⟨h2, kk, m, hm, e1, .int k v, ?_, rfl, e3⟩
      rw [intsOf_spec hvs, List.getElem?_map, e2]; rfl
    · simp at h
  · simp at h
def fIndexAgg (agg : Bool) (n k : Nat) (x i : AV) : Option AV :=
  match x with
  | .agg cs => match idx i n with
    | some m => partA agg k (Nat.mul m k) cs
    | none => match and (not agg) (and (Nat.beq k 1) (Nat.beq n 256)) with
      | true => sxAgg cs i
      | false => none
  | _ => none
theorem indexAgg_sound {t e : TypeId} {n k : Nat} {agg : Bool} {x i r : AV} (ht : elemInfo P t = some (some n, e, k)) (he : tInfo P e = some (agg, k)) (hx : okv ρ.d x) (hi : okv ρ.d i)
    (hr : fIndexAgg agg n k x i = some r) : (Instr.index t (toV ρ x) (toV ρ i)).run P w = .ok (toV ρ r) w ∧ okv ρ.d r := by
  obtain ⟨hu, j, hj, rfl⟩ := elemInfo_arr ht
  cases x <;> try (simp [fIndexAgg] at hr; done)
  simp only [fIndexAgg] at hr
  split at hr
  · rename_i cs _ m hm
    obtain ⟨hlt, kk, rfl⟩ := idx_spec hm
    obtain ⟨h1, h2⟩ := part_sound he hx hr w
    refine ⟨?_, h2⟩
    have h1 : (part e (toVs ρ cs).toArray (m * j.size)).run P w = .ok (toV ρ r) w := h1
    simp only [Instr.index, asIntOf, toV, Sem.run_bind, Sem.run_pure, Result.andThen_ok, run_underlying hu]
    rw [if_pos (by omega)]
    simp only [sizeOf, Sem.run_bind, run_typeInfo _ hj, Result.andThen_ok, Sem.run_pure, Int.toNat_natCast, h1]
  · rename_i cs _ _
    split at hr
    · rename_i hg
      simp only [Bool.and_eq_true, Bool.not_eq_true', Nat.beq_eq] at hg
      obtain ⟨rfl, hk, rfl⟩ := hg
      obtain ⟨g1, kk, m, hlt, e1, v, e2, _, e3⟩ := sxAgg_spec hr ρ hi
      refine ⟨?_, g1⟩
      have hp : partA false j.size (m * j.size) cs = some v := by
        rw [hk, Nat.mul_one]; simp only [partA, nthL_eq, e2]
      obtain ⟨h1, _⟩ := part_sound he hx hp w
      rw [e1, e3]
      simp only [Instr.index, asIntOf, toV, Sem.run_bind, Sem.run_pure, Result.andThen_ok, run_underlying hu]
      rw [if_pos (by omega)]
      simp only [sizeOf, Sem.run_bind, run_typeInfo _ hj, Result.andThen_ok, Sem.run_pure, Int.toNat_natCast, h1]
    · simp at hr

/-! ### slicing -/
/-- a bound: from lo to hi -/
def bnd (v : Option AV) (dflt : Nat) (hi : Nat) : Option Nat :=
  match v with
  | none => some dflt
  | some v => idx v (Nat.succ hi)
theorem run_bound {v : AV} {y m : Nat} {code : BoundsCode} (hv : idx v (Nat.succ y) = some m) : (Instr.sliceBound (toV ρ v) y code).run P w = .ok m w := by
  obtain ⟨hlt, k, rfl⟩ := idx_spec hv
  have h2 : (0 : Int) ≤ (m : Int) ∧ (m : Int) ≤ (y : Int) := by omega
  simp only [Instr.sliceBound, asIntOf, toV, Sem.run_bind, Sem.run_pure, Result.andThen_ok, if_pos h2, Int.toNat_natCast]

/-- the bounds of a slice expression without a third one: of a slice 'm' is the capacity -/
def bnds (len cap : Nat) (lo hi : Option AV) : Option (Nat × Nat) :=
  match bnd hi len cap with
  | some h => match bnd lo 0 h with
    | some l => some (l, h)
    | none => none
  | none => none
theorem run_bounds {isSlice : Bool} {len cap cap' : Nat} {lo hi : Option AV} {l h' : Nat} (hc : cap ≤ cap') (hlen : len ≤ cap) (hb : bnds len cap lo hi = some (l, h')) :
    (Instr.sliceBounds isSlice len cap' (lo.map (toV ρ)) (hi.map (toV ρ)) none).run P w = .ok (l, h', cap') w ∧ l ≤ h' ∧ h' ≤ cap := by
  unfold bnds at hb
  split at hb
  · rename_i q hq
    split at hb
    · rename_i p hp
      simp only [Option.some.injEq, Prod.mk.injEq] at hb
      obtain ⟨rfl, rfl⟩ := hb
      have hh : (match hi.map (toV ρ) with
          | some v => Instr.sliceBound v cap' (if isSlice then .sliceAcap else .sliceAlen)
          | none => pure len).run P w = .ok q w ∧ q ≤ cap := by
        cases hi with
        | none => simp only [bnd, Option.some.injEq] at hq; subst hq; exact ⟨rfl, hlen⟩
        | some v =>
          obtain ⟨h1, k, rfl⟩ := idx_spec hq
          refine ⟨?_, by omega⟩
          exact run_bound (v := .int k (q : Int)) (by simp only [idx, blt_eq]; rw [decide_eq_true (by omega)])
      have hl : (match lo.map (toV ρ) with
          | some v => Instr.sliceBound v q .sliceB
          | none => pure 0).run P w = .ok p w ∧ p ≤ q := by
        cases lo with
        | none => simp only [bnd, Option.some.injEq] at hp; subst hp; exact ⟨rfl, Nat.zero_le _⟩
        | some v =>
          refine ⟨run_bound hp, ?_⟩
          obtain ⟨h1, _⟩ := idx_spec hp
          omega
      refine ⟨?_, hl.2, hh.2⟩
      cases hi with
      | none =>
        have h1 := hh.1
        simp only [Option.map_none, Sem.run_pure, Result.ok.injEq, and_true] at h1
        subst h1
        cases lo with
        | none =>
          have h2 := hl.1
          simp only [Option.map_none, Sem.run_pure, Result.ok.injEq, and_true] at h2
          subst h2
          simp [Instr.sliceBounds]
        | some u =>
          have h2 := hl.1
          simp only [Option.map_some] at h2
          simp [Instr.sliceBounds, h2]
      | some v =>
        have h1 := hh.1
        simp only [Option.map_some] at h1
        cases lo with
        | none =>
          have h2 := hl.1
          simp only [Option.map_none, Sem.run_pure, Result.ok.injEq, and_true] at h2
          subst h2
          simp [Instr.sliceBounds, h1]
        | some u =>
          have h2 := hl.1
          simp only [Option.map_some] at h2
          simp [Instr.sliceBounds, h1, h2]
    · simp at hb
  · simp at hb

def fSliceStr (x : AV) (lo hi : Option AV) : Option AV :=
  match x with
  | .str len n => match bnds len len lo hi with
    | some (l, h) => some (.str (Nat.sub h l) (subStr n l h))
    | none => none
  | .lstr len c l => match bnds len len lo hi with
    | some (a, b) => match subL c l a b with
      | some (q, m) => mkStr (Nat.sub b a) q m
      | none => none
    | none => none
  | _ => none
theorem strOf_extract (len n l h : Nat) (hl : l ≤ h) (hh : h ≤ len) : (strOf len n).extract l h = strOf (h - l) (subStr n l h) := by
  apply ByteArray.ext
  apply Array.ext'
  simp only [strOf, ByteArray.data_extract, bytesOf_sub len n l h hl hh, Array.toList_extract, List.extract]
theorem sliceStr_sound {t : TypeId} {x r : AV} {lo hi : Option AV} (ht : P.underlying t = some .string) (hr : fSliceStr x lo hi = some r) :
    (Instr.sliceAt t (toV ρ x) (lo.map (toV ρ)) (hi.map (toV ρ)) none).run P w = .ok (toV ρ r) w ∧ okv ρ.d r := by
  have main : ∀ len n l h' : Nat, bnds len len lo hi = some (l, h') → (Instr.sliceAt t (.string (strOf len n)) (lo.map (toV ρ)) (hi.map (toV ρ)) none).run P w = .ok (.string (strOf (h' - l) (subStr n l h'))) w := by
    intro len n l h' hb
    obtain ⟨h1, h2, h3⟩ := run_bounds (P := P) (w := w) (ρ := ρ) (isSlice := false) (Nat.le_refl _) (Nat.le_refl _) hb
    simp only [Instr.sliceAt, Sem.run_bind, run_underlying ht, Result.andThen_ok, Instr.slice]
    simp only [Option.isSome_none, Bool.false_eq_true, if_false, strOf_size, h1, Result.andThen_ok, Sem.run_pure, Sem.run_bind]
    rw [strOf_extract len n l h' h2 h3]
  cases x <;> try (simp [fSliceStr] at hr; done)
  · simp only [fSliceStr] at hr
    split at hr
    · rename_i len n _ l h' hb
      simp only [Option.some.injEq] at hr; subst hr
      exact ⟨main _ _ _ _ hb, subStr_lt _ _ _⟩
    · simp at hr
  · simp only [fSliceStr] at hr
    split at hr
    · rename_i len c l _ a b hb
      split at hr
      · rename_i q m hq
        obtain ⟨h1, h2⟩ := mkStr_spec hr ρ
        rw [subL_spec hq ρ.s] at h1
        exact ⟨by rw [h1]; exact main _ _ _ _ hb, h2 _⟩
      · simp at hr
    · simp at hr

/-- slicing a slice -/
def fSliceSl (k : Nat) (x : AV) (lo hi : Option AV) : Option AV :=
  match x with
  | .snil => match bnds 0 0 lo hi with
    | some _ => some .snil
    | none => none
  | .slice b o len cap opn => match Nat.ble len cap with
    | false => none
    | true => match bnds len cap lo hi with
      | none => none
      | some (l, h) => match Nat.beq l cap with
        | false => some (.slice b (Nat.add o (Nat.mul l k)) (Nat.sub h l) (Nat.sub cap l) opn)
        | true => match opn with
          | false => some (.slice b o (Nat.sub h l) 0 false)
          | true => some (.edge b o (Nat.mul l k))
  | .edge b o d => match bnds 0 0 lo hi with
    | some _ => some (.edge b o d)
    | none => none
  | _ => none

theorem sliceSl_sound {t e : TypeId} {k : Nat} {x r : AV} {lo hi : Option AV} (ht : elemInfo P t = some (none, e, k)) (hx : okv ρ.d x) (hr : fSliceSl k x lo hi = some r) :
    (Instr.sliceAt t (toV ρ x) (lo.map (toV ρ)) (hi.map (toV ρ)) none).run P w = .ok (toV ρ r) w ∧ okv ρ.d r := by
  obtain ⟨hu, j, hj, rfl⟩ := elemInfo_slice ht
  have main : ∀ (a : Option Addr) (len cap cap' l h' : Nat), cap ≤ cap' → len ≤ cap → bnds len cap lo hi = some (l, h') →
      (Instr.sliceAt t (.slice a len cap') (lo.map (toV ρ)) (hi.map (toV ρ)) none).run P w =
        .ok (.slice (if cap' = l then a else a.map (·.add (l * j.size))) (h' - l) (cap' - l)) w := by
    intro a len cap cap' l h' hc hlen hb
    obtain ⟨h1, h2, h3⟩ := run_bounds (P := P) (w := w) (ρ := ρ) (isSlice := true) hc hlen hb
    simp only [Instr.sliceAt, Sem.run_bind, run_underlying hu, Result.andThen_ok, Instr.slice, h1, sizeOf, run_typeInfo _ hj, Sem.run_pure]
  cases x <;> try (simp [fSliceSl] at hr; done)
  · simp only [fSliceSl] at hr
    split at hr
    · rename_i q hb
      obtain ⟨l, h'⟩ := q
      simp only [Option.some.injEq] at hr; subst hr
      obtain ⟨_, h2, h3⟩ := run_bounds (P := P) (w := w) (ρ := ρ) (isSlice := true) (Nat.le_refl 0) (Nat.le_refl 0) hb
      have h0 : l = 0 := by omega
      have h0' : h' = 0 := by omega
      subst h0 h0'
      have := main none 0 0 0 0 0 (Nat.le_refl _) (Nat.le_refl _) hb
      exact ⟨by simpa [toV] using this, trivial⟩
    · simp at hr
  · rename_i b o len cap opn
    simp only [fSliceSl] at hr
    split at hr
    · simp at hr
    · rename_i hlen
      have hlen := Nat.le_of_ble_eq_true hlen
      split at hr
      · simp at hr
      · rename_i l h' hb
        obtain ⟨_, h2, h3⟩ := run_bounds (P := P) (w := w) (ρ := ρ) (isSlice := true) (Nat.le_refl cap) hlen hb
        split at hr
        · rename_i hlc
          rw [beq_eq, decide_eq_false_iff_not] at hlc
          simp only [Option.some.injEq] at hr; subst hr
          refine ⟨?_, hx⟩
          cases opn with
          | false =>
            have := main (some ⟨ρ.m b, o, none⟩) len cap cap l h' (Nat.le_refl _) hlen hb
            rw [if_neg (by omega)] at this
            simpa [toV, add_ptr] using this
          | true =>
            have := main (some ⟨ρ.m b, o, none⟩) len cap (cap + ρ.e b) l h' (by omega) hlen hb
            rw [if_neg (by omega), show cap + ρ.e b - l = cap - l + ρ.e b by omega] at this
            simpa [toV, add_ptr] using this
        · rename_i hlc
          rw [Nat.beq_eq] at hlc
          subst hlc
          split at hr
          · simp only [Option.some.injEq] at hr; subst hr
            refine ⟨?_, hx⟩
            have := main (some ⟨ρ.m b, o, none⟩) len l l l h' (Nat.le_refl _) hlen hb
            simpa [toV] using this
          · simp only [Option.some.injEq] at hr; subst hr
            refine ⟨?_, hx⟩
            have := main (some ⟨ρ.m b, o, none⟩) len l (l + ρ.e b) l h' (by omega) hlen hb
            rw [show l + ρ.e b - l = ρ.e b by omega, show h' - l = 0 by omega] at this
            by_cases he : ρ.e b = 0
            · simpa [toV, add_ptr, he] using this
            · have : (if l + ρ.e b = l then (some ⟨ρ.m b, o, none⟩ : Option Addr) else (some ⟨ρ.m b, o, none⟩ : Option Addr).map (·.add (l * j.size))) = some ⟨ρ.m b, o + l * j.size, none⟩ := by
                rw [if_neg (by omega)]; simp [add_ptr]
              simp_all [toV]
  · rename_i b o d
    simp only [fSliceSl] at hr
    split at hr
    · rename_i q hb
      obtain ⟨l, h'⟩ := q
      simp only [Option.some.injEq] at hr; subst hr
      obtain ⟨_, h2, h3⟩ := run_bounds (P := P) (w := w) (ρ := ρ) (isSlice := true) (Nat.le_refl 0) (Nat.le_refl 0) hb
      have h0 : l = 0 := by omega
      have h0' : h' = 0 := by omega
      subst h0 h0'
      refine ⟨?_, hx⟩
      have := main (some (if ρ.e b = 0 then ⟨ρ.m b, o, none⟩ else ⟨ρ.m b, o + d, none⟩)) 0 0 (ρ.e b) 0 0 (Nat.zero_le _) (Nat.le_refl _) hb
      by_cases he : ρ.e b = 0
      · simpa [toV, he] using this
      · simpa [toV, he, add_ptr] using this
    · simp at hr

/-- slicing an array by its address -/
def fSliceArr (n k : Nat) (x : AV) (lo hi : Option AV) : Option AV :=
  match x with
  | .ptr b o => match bnds n n lo hi with
    | none => none
    | some (l, h) => match Nat.beq l n with
      | false => some (.slice b (Nat.add o (Nat.mul l k)) (Nat.sub h l) (Nat.sub n l) false)
      | true => some (.slice b o (Nat.sub h l) (Nat.sub n l) false)
  | _ => none
theorem sliceArr_sound {t e : TypeId} {n k : Nat} {x r : AV} {lo hi : Option AV} (ht : elemInfo P t = some (some n, e, k)) (hx : okv ρ.d x) (hr : fSliceArr n k x lo hi = some r) :
    (Instr.sliceAt t (toV ρ x) (lo.map (toV ρ)) (hi.map (toV ρ)) none).run P w = .ok (toV ρ r) w ∧ okv ρ.d r := by
  obtain ⟨hu, j, hj, rfl⟩ := elemInfo_arr ht
  cases x <;> try (simp [fSliceArr] at hr; done)
  rename_i b o
  simp only [fSliceArr] at hr
  split at hr
  · simp at hr
  · rename_i l h' hb
    obtain ⟨h1, h2, h3⟩ := run_bounds (P := P) (w := w) (ρ := ρ) (isSlice := false) (Nat.le_refl n) (Nat.le_refl n) hb
    have key : (Instr.sliceAt t (toV ρ (.ptr b o)) (lo.map (toV ρ)) (hi.map (toV ρ)) none).run P w =
        .ok (.slice (some (if n = l then ⟨ρ.m b, o, none⟩ else (⟨ρ.m b, o, none⟩ : Addr).add (l * j.size))) (h' - l) (n - l)) w := by
      simp only [Instr.sliceAt, Sem.run_bind, run_underlying hu, Result.andThen_ok, toV, Instr.sureAddr, h1, sizeOf, run_typeInfo _ hj, Sem.run_pure]
    split at hr
    · rename_i hln
      rw [beq_eq, decide_eq_false_iff_not] at hln
      simp only [Option.some.injEq] at hr; subst hr
      refine ⟨?_, hx⟩
      rw [key, if_neg (by omega), add_ptr]
      simp [toV]
    · rename_i hln
      rw [Nat.beq_eq] at hln
      subst hln
      simp only [Option.some.injEq] at hr; subst hr
      refine ⟨?_, hx⟩
      rw [key, if_pos rfl]
      simp [toV]

/-- s[lo:hi:mx] of a slice -/
def fSliceMx (k : Nat) (x : AV) (lo hi mx : AV) : Option AV :=
  match x with
  | .slice b o _ cap _ => match idx mx (Nat.succ cap) with
    | none => none
    | some m => match idx hi (Nat.succ m) with
      | none => none
      | some h => match idx lo (Nat.succ h) with
        | none => none
        | some l => match Nat.beq l m with
          | false => some (.slice b (Nat.add o (Nat.mul l k)) (Nat.sub h l) (Nat.sub m l) false)
          | true => some (.slice b o (Nat.sub h l) 0 false)
  | .snil => match idx mx 1 with
    | none => none
    | some _ => match idx hi 1 with
      | none => none
      | some _ => match idx lo 1 with
        | none => none
        | some _ => some .snil
  | _ => none
theorem sliceMx_sound {t e : TypeId} {k : Nat} {x r lo hi mx : AV} (ht : elemInfo P t = some (none, e, k)) (hx : okv ρ.d x) (hr : fSliceMx k x lo hi mx = some r) :
    (Instr.sliceAt t (toV ρ x) (some (toV ρ lo)) (some (toV ρ hi)) (some (toV ρ mx))).run P w = .ok (toV ρ r) w ∧ okv ρ.d r := by
  obtain ⟨hu, j, hj, rfl⟩ := elemInfo_slice ht
  have main : ∀ (a : Option Addr) (len cap cap' l h' m : Nat), cap ≤ cap' → idx mx (Nat.succ cap) = some m → idx hi (Nat.succ m) = some h' → idx lo (Nat.succ h') = some l →
      (Instr.sliceAt t (.slice a len cap') (some (toV ρ lo)) (some (toV ρ hi)) (some (toV ρ mx))).run P w =
        .ok (.slice (if m = l then a else a.map (·.add (l * j.size))) (h' - l) (m - l)) w := by
    intro a len cap cap' l h' m hc hm hh hl
    have hm' : idx mx (Nat.succ cap') = some m := by
      obtain ⟨q, kk, rfl⟩ := idx_spec hm
      simp only [idx, blt_eq]; rw [decide_eq_true (by omega)]
    have r1 := fun code => run_bound (P := P) (w := w) (ρ := ρ) (code := code) hm'
    have r2 := fun code => run_bound (P := P) (w := w) (ρ := ρ) (code := code) hh
    have r3 := fun code => run_bound (P := P) (w := w) (ρ := ρ) (code := code) hl
    simp [Instr.sliceAt, run_underlying hu, Instr.slice, Instr.sliceBounds, r1, r2, r3, sizeOf, run_typeInfo _ hj]
  cases x <;> try (simp [fSliceMx] at hr; done)
  · simp only [fSliceMx] at hr
    split at hr
    · simp at hr
    · rename_i m hm
      split at hr
      · simp at hr
      · rename_i h' hh
        split at hr
        · simp at hr
        · rename_i l hl
          simp only [Option.some.injEq] at hr; subst hr
          have m0 : m = 0 := by have := (idx_spec hm).1; omega
          have h0 : h' = 0 := by have := (idx_spec hh).1; omega
          have l0 : l = 0 := by have := (idx_spec hl).1; omega
          subst m0 h0 l0
          have := main none 0 0 0 0 0 0 (Nat.le_refl _) hm hh hl
          exact ⟨by simpa [toV] using this, trivial⟩
  · rename_i b o len cap opn
    simp only [fSliceMx] at hr
    split at hr
    · simp at hr
    · rename_i m hm
      split at hr
      · simp at hr
      · rename_i h' hh
        split at hr
        · simp at hr
        · rename_i l hl
          have := main (some ⟨ρ.m b, o, none⟩) len cap (if opn then cap + ρ.e b else cap) l h' m (by split <;> omega) hm hh hl
          split at hr
          · rename_i hlc
            rw [beq_eq, decide_eq_false_iff_not] at hlc
            simp only [Option.some.injEq] at hr; subst hr
            refine ⟨?_, hx⟩
            rw [if_neg (show ¬ m = l by omega)] at this
            simpa [toV, add_ptr] using this
          · rename_i hlc
            rw [Nat.beq_eq] at hlc
            subst hlc
            simp only [Option.some.injEq] at hr; subst hr
            refine ⟨?_, hx⟩
            simpa [toV] using this

end
end Go.Vai
