/- Calls that are known: a function at given arguments answers a given value. -/
import Derived.Test.YtjkpgkmhkgngpaaGreatDoorVaiWi
namespace Go.Vai
open Go.RowKit

/-! ### values that lead nowhere -/
mutual
def bareA : AV → Bool
  | .bool _ => true
  | .int _ _ => true
  | .str len n => Nat.blt n (Nat.pow 2 (Nat.mul 8 len))
  | .nilp => true
  | .snil => true
  | .mnil => true
  | .nilFunc => true
  | .nilIface => true
  | .iface _ v => bareA v
  | .agg l => bareAs l
  | .tuple l => bareAs l
  | _ => false
def bareAs : List AV → Bool
  | [] => true
  | v :: l => and (bareA v) (bareAs l)
end
mutual
theorem bareA_spec : ∀ (v : AV), bareA v = true → ∀ (d : Nat → Prop) (ρ ρ' : Ren), okv d v ∧ toV ρ v = toV ρ' v
  | .bool b, _, _, _, _ => ⟨⟨⟩, by simp [toV]⟩
  | .int k n, _, _, _, _ => ⟨⟨⟩, by simp [toV]⟩
  | .str len n, h, _, _, _ => ⟨by simpa [bareA, okv] using h, by simp [toV]⟩
  | .nilp, _, _, _, _ => ⟨⟨⟩, by simp [toV]⟩
  | .snil, _, _, _, _ => ⟨⟨⟩, by simp [toV]⟩
  | .mnil, _, _, _, _ => ⟨⟨⟩, by simp [toV]⟩
  | .nilFunc, _, _, _, _ => ⟨⟨⟩, by simp [toV]⟩
  | .nilIface, _, _, _, _ => ⟨⟨⟩, by simp [toV]⟩
  | .iface t v, h, d, ρ, ρ' => by
    obtain ⟨h1, h2⟩ := bareA_spec v (by simpa [bareA] using h) d ρ ρ'
    exact ⟨h1, by simp [toV, h2]⟩
  | .agg l, h, d, ρ, ρ' => by
    obtain ⟨h1, h2⟩ := bareAs_spec l (by simpa [bareA] using h) d ρ ρ'
    exact ⟨h1, by simp [toV, h2]⟩
  | .tuple l, h, d, ρ, ρ' => by
    obtain ⟨h1, h2⟩ := bareAs_spec l (by simpa [bareA] using h) d ρ ρ'
    exact ⟨h1, by simp [toV, h2]⟩
  | .ptr _ _, h, _, _, _ => by simp [bareA] at h
  | .slice _ _ _ _ _, h, _, _, _ => by simp [bareA] at h
  | .edge _ _ _, h, _, _, _ => by simp [bareA] at h
  | .map _, h, _, _, _ => by simp [bareA] at h
  | .func _ _ _, h, _, _, _ => by simp [bareA] at h
theorem bareAs_spec : ∀ (l : List AV), bareAs l = true → ∀ (d : Nat → Prop) (ρ ρ' : Ren), okvs d l ∧ toVs ρ l = toVs ρ' l
  | [], _, _, _, _ => ⟨trivial, rfl⟩
  | v :: l, h, d, ρ, ρ' => by
    simp only [bareAs, Bool.and_eq_true] at h
    obtain ⟨h1, h2⟩ := bareA_spec v h.1 d ρ ρ'
    obtain ⟨h3, h4⟩ := bareAs_spec l h.2 d ρ ρ'
    exact ⟨⟨h1, h3⟩, by simp [toVs, h2, h4]⟩
end

/-! ### what is known of a call -/
structure Sum1 where
  f : FuncId
  args : List AV
  v : AV

def Sum1.ok (P : Program) (G : Nat) (h0 : Hp) (s : Sum1) : Prop := bareAs s.args = true ∧ bareA s.v = true ∧ ∀ w : World, G ≤ w.heap.size + 4 → StartOK G w h0 →
  Calls P s.f (s.args.map (toV (ren0 G))).toArray w fun e w' => e = .returned (toV (ren0 G) s.v) ∧ Below w.heap.size w w'

def findS (f : FuncId) (args : List AV) : List Sum1 → Option AV
  | [] => none
  | s :: l => match Nat.beq s.f f with
    | true => match avsEq s.args args with
      | true => some s.v
      | false => findS f args l
    | false => findS f args l
theorem findS_spec {f : FuncId} {args : List AV} {v : AV} : ∀ {l : List Sum1}, findS f args l = some v → ∃ s, s ∈ l ∧ s.f = f ∧ s.args = args ∧ s.v = v
  | [], h => by simp [findS] at h
  | s :: l, h => by
    simp only [findS] at h
    split at h
    · rename_i e1
      split at h
      · rename_i e2
        simp only [Option.some.injEq] at h
        exact ⟨s, by simp, Nat.eq_of_beq_eq_true e1, avsEq_sound _ _ e2, h⟩
      · obtain ⟨s', h1, h2⟩ := findS_spec h
        exact ⟨s', by simp [h1], h2⟩
    · obtain ⟨s', h1, h2⟩ := findS_spec h
      exact ⟨s', by simp [h1], h2⟩

/-- the known calls of this function alone: found out once -/
def knownF (sums : List Sum1) (f : FuncId) : Bool := sums.any fun s => Nat.beq s.f f
structure KB where
  run : Self → List AV → Hp → Nat → KV → Ans
noncomputable def bodyB (P : Program) (G F : Nat) (f : FuncId) : KB := match compF P G F f with
  | none => ⟨fun _ _ _ _ _ => .no 242⟩
  | some b => ⟨fun self args h n k => b.run self (fun t h' n' => leaveA P (selfD P G F self) b.res t k (defsOf t) h' n') args h n⟩
noncomputable def funB (P : Program) (G F : Nat) (sums : List Sum1) (f : FuncId) : KB := match knownF sums f with
  | false => bodyB P G F f
  | true => ⟨fun self args h n k => match findS f args sums with
    | some v => k v h n
    | none => (bodyB P G F f).run self args h n k⟩
noncomputable def selfM (P : Program) (G F : Nat) (sums : List Sum1) (d : Nat) : Self :=
  @Nat.rec (fun _ => Self) (fun _ _ _ _ _ => .no 250) (fun _ ih f args h n k => (funB P G F sums f).run ih args h n k) d

section
variable {P : Program} {G F : Nat} {w0 : Base} {self : Self}

theorem HRel.below' {ρ : Ren} {h : Hp} {nx : Nat} {w w' : World} (H : HRel G w0 ρ h nx w) (b : Below w.heap.size w w') : HRel G w0 ρ h nx w' where
  below := H.below.below b
  lt := H.lt
  lim := H.lim
  gl := H.gl
  obj c o hc ho hd := by
    obtain ⟨x, hx, r⟩ := H.obj c o hc ho hd
    exact ⟨x, by rw [b.block _ (H.in_ c hd)]; exact hx, r⟩
  own := H.own
  inj := H.inj
  glob := H.glob
  arg := H.arg
  in_ c hd := Nat.lt_of_lt_of_le (H.in_ c hd) b.size
  top := H.top
theorem HRel.room {ρ : Ren} {h : Hp} {nx : Nat} {w : World} (H : HRel G w0 ρ h nx w) : G ≤ w.heap.size + 4 := by
  rcases Nat.lt_or_ge (w.heap.size + 4) G with hlt | hge
  · obtain ⟨h1, h2⟩ := H.glob _ hlt
    have := H.in_ _ h1
    omega
  · exact hge
theorem HRel.start1 {ρ : Ren} {h h0 : Hp} {nx : Nat} {w : World} (H : HRel G w0 ρ h nx w) (hK : ∀ b, b + 4 < G → w0.K b) (hS : StartOK G w0.w h0) : StartOK G w h0 :=
  ⟨fun b o hb ho => by
    obtain ⟨h4, x, hx, r⟩ := hS.1 b o hb ho
    exact ⟨h4, x, by rw [H.below.block b (hK b h4)]; exact hx, r⟩, hS.2⟩

theorem bodyB_ok (hm : P.follows .mixedOrders = true) (hself : SelfOK P G w0 self) {f : FuncId} {args : List AV} {h : Hp} {n : Nat} {k : KV} {ρ : Ren} {w : World}
    (hr : (bodyB P G F f).run self args h n k = .ok) (H : HRel G w0 ρ h n w) (ha : okvs ρ.d args) : Calls P f (args.map (toV ρ)).toArray w (CallPost G w0 ρ h n k) := by
  unfold bodyB at hr
  split at hr
  · simp at hr
  · rename_i b hb
    obtain ⟨fn, c, hf, hc, hres, hwp⟩ := body_sound hm hself hb H ha hr
    have key : KOK G fn.ntmps w0 ρ h n (fun t h' n' => leaveA P (selfD P G F self) b.res t k (defsOf t) h' n')
        fun a w => Leaves P fn a.tmps (CallPost G w0 ρ h n k) a.defers .returning w := by
      intro ρ' t' h' n' a' w' E' H' A' hr'
      simp only at hr'
      rw [hres] at hr'
      exact leaveA_sound hm hself _ _ A'.defs E' H' A'.slots hr'
    exact calls_of_wp_defers hf hc (hwp _ key key)

theorem selfM_ok (hm : P.follows .mixedOrders = true) {h0 : Hp} {sums : List Sum1} (hs : ∀ s, s ∈ sums → s.ok P G h0) (hG : ∀ b, b + 4 < G → w0.K b) (hS : StartOK G w0.w h0) :
    ∀ d, SelfOK P G w0 (selfM P G F sums d)
  | 0 => fun f args h n k ρ w hr => by simp [selfM] at hr
  | d + 1 => fun f args h n k ρ w hr H ha => by
    have hself := selfM_ok hm hs hG hS d
    have hr : (funB P G F sums f).run (selfM P G F sums d) args h n k = .ok := hr
    unfold funB at hr
    split at hr
    · exact bodyB_ok hm hself hr H ha
    · simp only at hr
      split at hr
      · rename_i v hv
        obtain ⟨s, hin, rfl, rfl, rfl⟩ := findS_spec hv
        obtain ⟨b1, b2, b3⟩ := hs s hin
        have := b3 w H.room (H.start1 hG hS)
        have e : s.args.map (toV (ren0 G)) = s.args.map (toV ρ) := by
          rw [← toVs_map, ← toVs_map]; exact (bareAs_spec s.args b1 (fun _ => True) _ _).2
        rw [e] at this
        refine this.mono ?_
        rintro e w' ⟨rfl, bel⟩
        obtain ⟨c1, c2⟩ := bareA_spec s.v b2 ρ.d (ren0 G) ρ
        exact ⟨ρ, s.v, h, n, by rw [c2], c1, H.below' bel, Ext.refl _ _ _, hr⟩
      · exact bodyB_ok hm hself hr H ha
end

def same (v : AV) : KV := fun u _ _ => match avEq u v with
  | true => .ok
  | false => .no 261

theorem vaiM {P : Program} {G F : Nat} (d : Nat) {h0 : Hp} {sums : List Sum1} (hm : P.follows .mixedOrders = true) (hG : Nat.blt G 16777216 = true) (hs : ∀ s, s ∈ sums → s.ok P G h0)
    {f : FuncId} {args : List AV} {v : AV} (ha : bareAs args = true) (hv : bareA v = true) (hrun : selfM P G F sums d f args h0 G (same v) = .ok) : (Sum1.mk f args v).ok P G h0 := by
  refine ⟨ha, hv, fun w hw hS => ?_⟩
  have H : HRel G (Base.all w) (ren0 G) h0 G w := HRel.startAt _ (by unfold keyMax; simpa using hG) hw hS
  refine (selfM_ok (w0 := Base.all w) hm hs (fun b hb => (show b < w.heap.size by omega)) hS d f args h0 G _ (ren0 G) w hrun H (bareAs_spec args ha _ (ren0 G) (ren0 G)).1).mono ?_
  rintro e w' ⟨ρ', u, h', n', rfl, _, H', _, hk⟩
  refine ⟨?_, H'.below.all⟩
  simp only [same] at hk
  split at hk
  · rename_i e
    rw [avEq_sound _ _ e, (bareA_spec v hv (fun _ => True) ρ' (ren0 G)).2]
  · simp at hk
end Go.Vai
