/- Numbers that hang on one unknown alone: reckoned with and compared by going through all that it may be. -/
import Derived.Test.YtjkpgkmhkgngpaaGreatDoorVaiCs
namespace Go.Vai
open Go.RowKit

/-! ### rows of numbers -/
def rowI (a : Int) : Int → Nat → List Int
  | _, 0 => []
  | c, n + 1 => c :: rowI a (Int.add c a) n
theorem rowI_length (a : Int) : ∀ (c : Int) (n : Nat), (rowI a c n).length = n
  | _, 0 => rfl
  | c, n + 1 => by simp [rowI, rowI_length a _ n]
theorem rowI_get (a : Int) : ∀ (n : Nat) (c : Int) (i : Nat), i < n → (rowI a c n)[i]? = some (c + a * i)
  | 0, _, _, h => by omega
  | n + 1, c, 0, _ => by simp [rowI]
  | n + 1, c, i + 1, h => by
    simp only [rowI, List.getElem?_cons_succ]
    rw [rowI_get a n _ i (by omega)]
    congr 1
    show c + a + a * (i : Int) = c + a * ((i + 1 : Nat) : Int)
    rw [Int.natCast_add, Int.mul_add]
    simp
    omega

/-! ### what a number may be -/
def ixU (s : Nat → Int) (u : Option (Nat × Int)) (n : Nat) : Nat := match u with
  | none => 0
  | some p => tabIx s p.1 p.2 n
theorem ixU_lt (s : Nat → Int) (u : Option (Nat × Int)) {n : Nat} (h : 0 < n) : ixU s u n < n := by
  unfold ixU
  split
  · exact h
  · exact tabIx_lt s _ _ h
/-- the unknown ('none': there is none), and what the number is by it -/
structure Vw where
  u : Option (Nat × Int)
  vs : List Int
def viewL (c : Int) (l : List LV) : Option Vw := match l with
  | [] => some ⟨none, [c]⟩
  | [x] => match Nat.ble x.w 300 with
    | true => some ⟨some (x.j, x.lo), rowI x.a (Int.add c (Int.mul x.a x.lo)) (Nat.succ x.w)⟩
    | false => none
  | _ => none
theorem viewL_spec {c : Int} {l : List LV} {v : Vw} (h : viewL c l = some v) : 0 < v.vs.length ∧ (v.u = none → v.vs.length = 1) ∧ ∀ s, v.vs[ixU s v.u v.vs.length]? = some (linV s c l) := by
  unfold viewL at h
  split at h
  · simp only [Option.some.injEq] at h; subst h
    exact ⟨by simp, fun _ => rfl, fun s => rfl⟩
  · rename_i x
    split at h
    · simp only [Option.some.injEq] at h; subst h
      have hl : ∀ c', (rowI x.a c' (Nat.succ x.w)).length = x.w + 1 := fun c' => rowI_length _ _ _
      refine ⟨by rw [hl]; omega, fun e => by simp at e, fun s => ?_⟩
      simp only [ixU]
      rw [hl]
      have h1 := clampI_in x.lo x.w (s x.j)
      have hi := tabIx_lt s x.j x.lo (n := x.w + 1) (by omega)
      rw [rowI_get _ _ _ _ hi]
      congr 1
      simp only [linV, LV.val]
      have : ((tabIx s x.j x.lo (x.w + 1) : Nat) : Int) = clampI x.lo x.w (s x.j) - x.lo := by
        unfold tabIx
        rw [Nat.add_sub_cancel]
        omega
      rw [this]
      show c + x.a * x.lo + x.a * (clampI x.lo x.w (s x.j) - x.lo) = x.a * clampI x.lo x.w (s x.j) + c
      rw [Int.mul_sub]
      omega
    · simp at h
  · simp at h
structure Nm where
  k : IntKind
  u : Option (Nat × Int)
  vs : List Int
def viewA (v : AV) : Option Nm := match v with
  | .int k n => some ⟨k, none, [n]⟩
  | .lint k c l => match viewL c l with
    | some w => some ⟨k, w.u, w.vs⟩
    | none => none
  | .tab k j lo vs => match vs with
    | [] => none
    | x :: r => some ⟨k, some (j, lo), x :: r⟩
  | _ => none
def Nm.ix (s : Nat → Int) (x : Nm) : Nat := ixU s x.u x.vs.length
theorem viewA_spec {v : AV} {x : Nm} (h : viewA v = some x) : 0 < x.vs.length ∧ (x.u = none → x.vs.length = 1) ∧ (∀ d, okv d v) ∧
    ∀ ρ : Ren, ∃ a, x.vs[ixU ρ.s x.u x.vs.length]? = some a ∧ toV ρ v = .int x.k a := by
  unfold viewA at h
  split at h
  · simp only [Option.some.injEq] at h; subst h
    exact ⟨by simp, fun _ => rfl, fun _ => trivial, fun ρ => ⟨_, rfl, rfl⟩⟩
  · split at h
    · rename_i w hw
      simp only [Option.some.injEq] at h; subst h
      obtain ⟨h1, h2, h3⟩ := viewL_spec hw
      exact ⟨h1, h2, fun _ => trivial, fun ρ => ⟨_, h3 ρ.s, rfl⟩⟩
    · simp at h
  · rename_i k j lo vs
    split at h
    · simp at h
    · rename_i x r
      simp only [Option.some.injEq] at h; subst h
      refine ⟨by simp, fun e => by simp at e, fun _ => trivial, fun ρ => ?_⟩
      have hi := tabIx_lt ρ.s j lo (n := (x :: r).length) (by simp)
      refine ⟨(x :: r)[tabIx ρ.s j lo (x :: r).length], by simp only [ixU]; rw [List.getElem?_eq_getElem hi], ?_⟩
      simp only [toV]
      rw [List.getD_eq_getElem?_getD, List.getElem?_eq_getElem hi]; rfl
  · simp at h

/-! ### answers gathered -/
def allI (v : Int) : List Int → Bool
  | [] => true
  | x :: l => and (eqI x v) (allI v l)
theorem allI_spec {v : Int} : ∀ {l : List Int}, allI v l = true → ∀ (i : Nat) (x : Int), l[i]? = some x → x = v
  | [], _, i, x, hi => by simp at hi
  | y :: l, h, i, x, hi => by
    simp only [allI, Bool.and_eq_true, eqI_eq, beq_iff_eq] at h
    cases i with
    | zero => simp at hi; rw [← hi]; exact h.1
    | succ i => exact allI_spec h.2 i x (by simpa using hi)
def eqIs : List Int → List Int → Bool
  | [], [] => true
  | a :: l, b :: l' => and (eqI a b) (eqIs l l')
  | _, _ => false
theorem eqIs_spec : ∀ {a b : List Int}, eqIs a b = true → a = b
  | [], b, h => by cases b <;> simp [eqIs] at h; rfl
  | x :: a, b, h => by
    cases b with
    | nil => simp [eqIs] at h
    | cons y b =>
      simp only [eqIs, Bool.and_eq_true, eqI_eq, beq_iff_eq] at h
      rw [h.1, eqIs_spec h.2]
/-- a number, by an unknown -/
def mkTab (k : IntKind) (j : Nat) (lo : Int) (vs : List Int) : AV := match vs with
  | [] => .int k 0
  | v :: l => match allI v l with
    | true => .int k v
    | false => match l with
      | [] => .int k v
      | v2 :: _ => match eqIs (v :: l) (rowI (Int.sub v2 v) v (v :: l).length) with
        | true => .lint k (Int.sub v (Int.mul (Int.sub v2 v) lo)) [⟨j, Int.sub v2 v, lo, l.length⟩]
        | false => .tab k j lo (v :: l)
theorem mkTab_spec (k : IntKind) (j : Nat) (lo : Int) (vs : List Int) (hv : 0 < vs.length) (ρ : Ren) : ∀ a, vs[tabIx ρ.s j lo vs.length]? = some a → toV ρ (mkTab k j lo vs) = .int k a ∧ ∀ d, okv d (mkTab k j lo vs) := by
  intro a ha
  unfold mkTab
  split
  · simp at hv
  · rename_i v l
    split
    · rename_i e
      refine ⟨?_, fun _ => trivial⟩
      have : allI v (v :: l) = true := by simp [allI, e, eqI_eq]
      rw [allI_spec this _ a ha]; rfl
    · rename_i e
      split
      · simp [allI] at e
      · rename_i v2 l2
        split
        · rename_i e2
          refine ⟨?_, fun _ => trivial⟩
          have e2 := eqIs_spec e2
          have hi := tabIx_lt ρ.s j lo (n := (v :: v2 :: l2).length) (by simp)
          rw [e2, rowI_length] at ha
          rw [rowI_get _ _ _ _ hi] at ha
          simp only [Option.some.injEq] at ha
          simp only [toV, linV, LV.val]
          congr 1
          rw [← ha]
          have h1 := clampI_in lo (v2 :: l2).length (ρ.s j)
          have : ((tabIx ρ.s j lo (v :: v2 :: l2).length : Nat) : Int) = clampI lo (v2 :: l2).length (ρ.s j) - lo := by
            unfold tabIx
            rw [List.length_cons, Nat.add_sub_cancel]
            omega
          rw [this]
          show (v2 - v) * clampI lo (v2 :: l2).length (ρ.s j) + (v - (v2 - v) * lo) = v + (v2 - v) * (clampI lo (v2 :: l2).length (ρ.s j) - lo)
          rw [Int.mul_sub]
          omega
        · refine ⟨?_, fun _ => trivial⟩
          simp only [toV]
          rw [List.getD_eq_getElem?_getD, ha]; rfl
def mkU (k : IntKind) (u : Option (Nat × Int)) (vs : List Int) : AV := match u with
  | none => match vs with
    | [] => .int k 0
    | v :: _ => .int k v
  | some p => mkTab k p.1 p.2 vs
theorem mkU_spec (k : IntKind) (u : Option (Nat × Int)) (vs : List Int) (hv : 0 < vs.length) (ρ : Ren) : ∀ a, vs[ixU ρ.s u vs.length]? = some a → toV ρ (mkU k u vs) = .int k a ∧ ∀ d, okv d (mkU k u vs) := by
  intro a ha
  unfold mkU
  split
  · split
    · simp at hv
    · simp only [ixU, List.getElem?_cons_zero, Option.some.injEq] at ha
      subst ha
      exact ⟨rfl, fun _ => trivial⟩
  · exact mkTab_spec k _ _ vs hv ρ a ha

def intsOf (k : IntKind) : List AV → Option (List Int)
  | [] => some []
  | v :: l => match v with
    | .int k' n => match decide (k = k') with
      | true => match intsOf k l with
        | some r => some (n :: r)
        | none => none
      | false => none
    | _ => none
theorem intsOf_spec {k : IntKind} : ∀ {l : List AV} {r : List Int}, intsOf k l = some r → l = r.map fun n => AV.int k n
  | [], r, h => by simp only [intsOf, Option.some.injEq] at h; subst h; rfl
  | v :: l, r, h => by
    simp only [intsOf] at h
    split at h
    · split at h
      · rename_i e
        have e := of_decide_eq_true e
        subst e
        split at h
        · rename_i q hq
          simp only [Option.some.injEq] at h; subst h
          rw [intsOf_spec hq]; rfl
        · simp at h
      · simp at h
    · simp at h
/-- values that are all the same: bools, nil slices, texts -/
def plainEq (x y : AV) : Bool := match x with
  | .bool a => match y with
    | .bool b => match a with
      | true => b
      | false => not b
    | _ => false
  | .snil => match y with
    | .snil => true
    | _ => false
  | .str l n => match y with
    | .str l' n' => and (Nat.beq l l') (Nat.beq n n')
    | _ => false
  | _ => false
theorem plainEq_spec {x y : AV} (h : plainEq x y = true) : x = y := by
  cases x <;> cases y <;> simp [plainEq] at h
  · rename_i a b
    cases a <;> cases b <;> simp at h <;> rfl
  · rw [h.1, h.2]
  · rfl
def allV (v : AV) : List AV → Bool
  | [] => true
  | x :: l => and (plainEq v x) (allV v l)
theorem allV_spec {v : AV} : ∀ {l : List AV}, allV v l = true → ∀ (i : Nat) (x : AV), l[i]? = some x → x = v
  | [], _, i, x, hi => by simp at hi
  | y :: l, h, i, x, hi => by
    simp only [allV, Bool.and_eq_true] at h
    cases i with
    | zero => simp at hi; rw [← hi]; exact (plainEq_spec h.1).symm
    | succ i => exact allV_spec h.2 i x (by simpa using hi)
def gatherU (u : Option (Nat × Int)) (rs : List AV) : Option AV := match rs with
  | [] => none
  | v :: l => match v with
    | .int k _ => match intsOf k (v :: l) with
      | some vs => some (mkU k u vs)
      | none => none
    | _ => match allV v l with
      | true => some v
      | false => none
theorem gatherU_spec {u : Option (Nat × Int)} {rs : List AV} {r : AV} (h : gatherU u rs = some r) (ρ : Ren) {x : AV} (hx : rs[ixU ρ.s u rs.length]? = some x) {d : Nat → Prop} (hd : okvs d rs) : toV ρ r = toV ρ x ∧ okv d r := by
  unfold gatherU at h
  split at h
  · simp at h
  · rename_i v l
    have other : ∀ (hs : allV v l = true) (e : r = v), toV ρ r = toV ρ x ∧ okv d r := by
      rintro hs rfl
      refine ⟨?_, hd.1⟩
      generalize ixU ρ.s u (r :: l).length = i at hx
      cases i with
      | zero => simp at hx; rw [hx]
      | succ i => rw [allV_spec hs i x (by simpa using hx)]
    split at h
    · rename_i k n
      split at h
      · rename_i vs hvs
        simp only [Option.some.injEq] at h; subst h
        have e := intsOf_spec hvs
        have hl : (AV.int k n :: l).length = vs.length := by rw [e]; simp
        rw [hl] at hx
        rw [e, List.getElem?_map] at hx
        cases ha : vs[ixU ρ.s u vs.length]? with
        | none => rw [ha] at hx; simp at hx
        | some a =>
          rw [ha] at hx
          simp only [Option.map_some, Option.some.injEq] at hx; subst hx
          obtain ⟨g1, g2⟩ := mkU_spec k u vs (by rw [← hl]; simp) ρ a ha
          exact ⟨g1, g2 d⟩
      · simp at h
    · split at h
      · rename_i hs
        simp only [Option.some.injEq] at h
        exact other hs h.symm
      · simp at h

/-! ### two numbers -/
structure Ps where
  u : Option (Nat × Int)
  ps : List (Int × Int)
def eqU (a b : Nat × Int) : Bool := and (Nat.beq a.1 b.1) (eqI a.2 b.2)
theorem eqU_spec {a b : Nat × Int} (h : eqU a b = true) : a = b := by
  obtain ⟨a1, a2⟩ := a
  obtain ⟨b1, b2⟩ := b
  simp only [eqU, Bool.and_eq_true, Nat.beq_eq, eqI_eq, beq_iff_eq] at h
  rw [h.1, h.2]
def zipU (u : Option (Nat × Int)) (xs : List Int) (u' : Option (Nat × Int)) (ys : List Int) : Option Ps := match u with
  | none => match xs with
    | [x] => some ⟨u', ys.map fun y => (x, y)⟩
    | _ => none
  | some p => match u' with
    | none => match ys with
      | [y] => some ⟨some p, xs.map fun x => (x, y)⟩
      | _ => none
    | some p' => match and (eqU p p') (Nat.beq xs.length ys.length) with
      | true => some ⟨some p, xs.zip ys⟩
      | false => none
theorem zipU_spec {u u' : Option (Nat × Int)} {xs ys : List Int} {q : Ps} (h : zipU u xs u' ys = some q) (s : Nat → Int) {a b : Int} (ha : xs[ixU s u xs.length]? = some a) (hb : ys[ixU s u' ys.length]? = some b) :
    q.ps[ixU s q.u q.ps.length]? = some (a, b) := by
  unfold zipU at h
  split at h
  · split at h
    · simp only [Option.some.injEq] at h; subst h
      simp only [ixU, List.getElem?_cons_zero, Option.some.injEq] at ha
      subst ha
      simp only [List.length_map, List.getElem?_map, hb, Option.map_some]
    · simp at h
  · rename_i p
    split at h
    · split at h
      · simp only [Option.some.injEq] at h; subst h
        simp only [ixU, List.getElem?_cons_zero, Option.some.injEq] at hb
        subst hb
        simp only [List.length_map, List.getElem?_map, ha, Option.map_some]
      · simp at h
    · split at h
      · rename_i p' e
        simp only [Bool.and_eq_true, Nat.beq_eq] at e
        obtain ⟨e1, e2⟩ := e
        have e1 := eqU_spec e1
        subst e1
        simp only [Option.some.injEq] at h; subst h
        have hl : (xs.zip ys).length = xs.length := by simp [e2]
        simp only [hl]
        rw [← e2] at hb
        rw [List.getElem?_zip_eq_some]
        exact ⟨ha, hb⟩
      · simp at h
def runAll (op : BinOp) (k k' : IntKind) : List (Int × Int) → Option (List AV)
  | [] => some []
  | p :: l => match intI op k p.1 k' p.2 with
    | some r => match runAll op k k' l with
      | some rs => some (r :: rs)
      | none => none
    | none => none
theorem runAll_spec {op : BinOp} {k k' : IntKind} : ∀ {ps : List (Int × Int)} {rs : List AV}, runAll op k k' ps = some rs → rs.length = ps.length ∧ ∀ (i : Nat) (p : Int × Int), ps[i]? = some p → ∃ r, rs[i]? = some r ∧ intI op k p.1 k' p.2 = some r
  | [], rs, h => by simp only [runAll, Option.some.injEq] at h; subst h; exact ⟨rfl, fun i p hp => by simp at hp⟩
  | q :: l, rs, h => by
    simp only [runAll] at h
    split at h
    · rename_i r hr
      split at h
      · rename_i rs' hrs
        simp only [Option.some.injEq] at h; subst h
        obtain ⟨h1, h2⟩ := runAll_spec hrs
        refine ⟨by simp [h1], fun i p hp => ?_⟩
        cases i with
        | zero => simp at hp; subst hp; exact ⟨r, by simp, hr⟩
        | succ i =>
          obtain ⟨r', g1, g2⟩ := h2 i p (by simpa using hp)
          exact ⟨r', by simpa using g1, g2⟩
      · simp at h
    · simp at h
def enumV (op : BinOp) (x y : AV) : Option AV := match viewA x with
  | some X => match viewA y with
    | some Y => match zipU X.u X.vs Y.u Y.vs with
      | some q => match runAll op X.k Y.k q.ps with
        | some rs => gatherU q.u rs
        | none => none
      | none => none
    | none => none
  | none => none
theorem okvs_run {P : Program} {op : BinOp} {k k' : IntKind} (ρ : Ren) (w : World) (t : TypeId) : ∀ {ps : List (Int × Int)} {rs : List AV}, runAll op k k' ps = some rs → okvs ρ.d rs
  | [], rs, h => by simp only [runAll, Option.some.injEq] at h; subst h; trivial
  | q :: l, rs, h => by
    simp only [runAll] at h
    split at h
    · rename_i r hr
      split at h
      · rename_i rs' hrs
        simp only [Option.some.injEq] at h; subst h
        exact ⟨(run_intI (P := P) ρ w op t _ _ _ _ _ hr).2, okvs_run (P := P) ρ w t hrs⟩
      · simp at h
    · simp at h
theorem enumV_spec {P : Program} {op : BinOp} {x y r : AV} (h : enumV op x y = some r) (ρ : Ren) (w : World) (t : TypeId) :
    ∃ k a k' b r0, toV ρ x = .int k a ∧ toV ρ y = .int k' b ∧ intI op k a k' b = some r0 ∧ toV ρ r = toV ρ r0 ∧ okv ρ.d r := by
  unfold enumV at h
  split at h <;> try (simp at h; done)
  rename_i X hX
  split at h <;> try (simp at h; done)
  rename_i Y hY
  split at h <;> try (simp at h; done)
  rename_i q hq
  split at h <;> try (simp at h; done)
  rename_i rs hrs
  obtain ⟨_, _, _, x4⟩ := viewA_spec hX
  obtain ⟨_, _, _, y4⟩ := viewA_spec hY
  obtain ⟨a, ha, ha2⟩ := x4 ρ
  obtain ⟨b, hb, hb2⟩ := y4 ρ
  obtain ⟨l1, l2⟩ := runAll_spec hrs
  have hz := zipU_spec hq ρ.s ha hb
  obtain ⟨r0, g1, g2⟩ := l2 _ _ hz
  rw [← l1] at g1
  obtain ⟨g3, g4⟩ := gatherU_spec h ρ g1 (okvs_run (P := P) ρ w t hrs)
  exact ⟨_, a, _, b, r0, ha2, hb2, g2, g3, g4⟩

/-! ### one number -/
def conI (k : IntKind) (v : AV) : Option AV := match viewA v with
  | some X => some (mkU k X.u (X.vs.map fun n => wrapI k n))
  | none => none
theorem conI_spec {k : IntKind} {v r : AV} (h : conI k v = some r) (ρ : Ren) : ∃ k' a, toV ρ v = .int k' a ∧ toV ρ r = .int k (wrapI k a) ∧ ∀ d, okv d r := by
  unfold conI at h
  split at h
  · rename_i X hX
    simp only [Option.some.injEq] at h; subst h
    obtain ⟨x1, _, _, x4⟩ := viewA_spec hX
    obtain ⟨a, ha, ha2⟩ := x4 ρ
    obtain ⟨g1, g2⟩ := mkU_spec k X.u (X.vs.map fun n => wrapI k n) (by simpa using x1) ρ (wrapI k a) (by rw [List.length_map, List.getElem?_map, ha]; rfl)
    exact ⟨_, a, ha2, g1, g2⟩
  · simp at h
/-- is a sum nought? -/
def eq0L (c : Int) (l : List LV) : Option Bool := match cmpD .eql (linMn c l) (linMx c l) with
  | some b => some b
  | none => match viewL c l with
    | some w => match w.vs.all fun v => not (eqI v 0) with
      | true => some false
      | false => none
    | none => none
theorem eq0L_spec {c : Int} {l : List LV} {b : Bool} (h : eq0L c l = some b) (s : Nat → Int) : decide (linV s c l = 0) = b := by
  unfold eq0L at h
  split at h
  · rename_i b' hb
    simp only [Option.some.injEq] at h; subst h
    have a := lin_rng s c l
    have := cmpD_spec (x := linV s c l) (y := 0) hb (by omega) (by omega)
    simp only [cmpI, eqI_eq, Option.some.injEq] at this
    rw [← this]
    by_cases e : linV s c l = 0 <;> simp [e]
  · split at h
    · rename_i w hw
      split at h
      · rename_i ha
        simp only [Option.some.injEq] at h; subst h
        obtain ⟨_, _, h3⟩ := viewL_spec hw
        have := List.all_eq_true.1 ha _ (List.mem_of_getElem? (h3 s))
        simp only [eqI_eq, Bool.not_eq_true', beq_eq_false_iff_ne] at this
        simp [this]
      · simp at h
    · simp at h
end Go.Vai
