/- Calls over known blocks: a function at given arguments, given blocks of memory, and what it leaves of them. -/
import Derived.Test.YtjkpgkmhkgngpaaGreatDoorVaiWj
namespace Go.Vai
open Go.RowKit

/-! ### equality of blocks -/
def optEq (a b : Option AV) : Bool := match a with
  | none => match b with
    | none => true
    | some _ => false
  | some x => match b with
    | some y => avEq x y
    | none => false
theorem optEq_sound {a b : Option AV} (h : optEq a b = true) : a = b := by
  cases a <;> cases b <;> simp [optEq] at h
  · rfl
  · rw [avEq_sound _ _ h]
noncomputable def trieEq (a : Trie AV) : Trie AV → Bool :=
  @Trie.rec AV (fun _ => Trie AV → Bool)
    (fun b => @Trie.rec AV (fun _ => Bool) true (fun _ _ _ _ _ => false) b)
    (fun _ v _ il ir b => @Trie.rec AV (fun _ => Bool) false (fun l' v' r' _ _ => and (optEq v v') (and (il l') (ir r'))) b) a
theorem trieEq_sound : ∀ a b : Trie AV, trieEq a b = true → a = b
  | .leaf, b, h => by
    cases b with
    | leaf => rfl
    | node l v r => cases h
  | .node l v r, b, h => by
    cases b with
    | leaf => cases h
    | node l' v' r' =>
      have h : (optEq v v' && (trieEq l l' && trieEq r r')) = true := h
      simp only [Bool.and_eq_true] at h
      rw [optEq_sound h.1, trieEq_sound l l' h.2.1, trieEq_sound r r' h.2.2]
def fzEq (a b : Fz) : Bool := match a with
  | .none => match b with
    | .none => true
    | _ => false
  | .mark => match b with
    | .mark => true
    | _ => false
  | .range lo hi => match b with
    | .range lo' hi' => and (Nat.beq lo lo') (Nat.beq hi hi')
    | _ => false
theorem fzEq_sound {a b : Fz} (h : fzEq a b = true) : a = b := by
  cases a <;> cases b <;> simp [fzEq] at h
  · rfl
  · rfl
  · rw [h.1, h.2]
def entsEq : List (AV × AV × Nat) → List (AV × AV × Nat) → Bool
  | [], [] => true
  | a :: l, b :: l' => and (avEq a.1 b.1) (and (avEq a.2.1 b.2.1) (and (Nat.beq a.2.2 b.2.2) (entsEq l l')))
  | _, _ => false
theorem entsEq_sound : ∀ (a b : List (AV × AV × Nat)), entsEq a b = true → a = b
  | [], b, h => by cases b <;> simp [entsEq] at h; rfl
  | (x, y, z) :: l, b, h => by
    cases b with
    | nil => simp [entsEq] at h
    | cons q l' =>
      obtain ⟨x', y', z'⟩ := q
      simp only [entsEq, Bool.and_eq_true, Nat.beq_eq] at h
      obtain ⟨h1, h2, h3, h4⟩ := h
      rw [avEq_sound _ _ h1, avEq_sound _ _ h2, h3, entsEq_sound _ _ h4]
noncomputable def objEq (a b : AObj) : Bool := match a with
  | .cells c n ty fz q => match b with
    | .cells c' n' ty' fz' q' => and (and (Nat.beq n n') (Nat.beq ty ty')) (and (and (fzEq fz fz') (Nat.beq q q')) (trieEq c c'))
    | _ => false
  | .iter l s p => match b with
    | .iter l' s' p' => and (Nat.beq l l') (and (Nat.beq s s') (Nat.beq p p'))
    | _ => false
  | .map es k => match b with
    | .map es' k' => and (Nat.beq k k') (entsEq es es')
    | _ => false
  | .liter _ _ _ _ => false
  | .arg _ => false
theorem objEq_sound {a b : AObj} (h : objEq a b = true) : a = b := by
  cases a <;> cases b <;> simp only [objEq, Bool.and_eq_true, Nat.beq_eq, Bool.false_eq_true] at h
  · obtain ⟨⟨h1, h2⟩, ⟨h3, h4⟩, h5⟩ := h
    rw [h1, h2, fzEq_sound h3, h4, trieEq_sound _ _ h5]
  · rw [h.1, h.2.1, h.2.2]
  · rw [h.1, entsEq_sound _ _ h.2]

/-! ### blocks laid over a heap -/
noncomputable def applyPost : List (Nat × Option AObj) → Hp → Hp
  | [], h => h
  | (b, x) :: l, h => match x with
    | some o => applyPost l (h.set b o)
    | none => applyPost l (h.del b)
def keysOf (l : List (Nat × Option AObj)) : List Nat := l.map fun p => p.1
theorem apply_get {g : Nat → Option AObj} : ∀ (l : List (Nat × Option AObj)) (h : Hp), (∀ p, p ∈ l → p.1 < keyMax ∧ g p.1 = p.2) → ∀ b, b < keyMax →
    (applyPost l h).get b = if b ∈ keysOf l then g b else h.get b
  | [], h, _, b, _ => by simp [applyPost, keysOf]
  | (c, x) :: l, h, hl, b, hb => by
    have hl' : ∀ p, p ∈ l → p.1 < keyMax ∧ g p.1 = p.2 := fun p hp => hl p (by simp [hp])
    obtain ⟨hc, hg⟩ := hl (c, x) (by simp)
    have main : ∀ h' : Hp, (h'.get c = x) → (∀ k, k < keyMax → k ≠ c → h'.get k = h.get k) → (applyPost l h').get b = if b ∈ keysOf ((c, x) :: l) then g b else h.get b := by
      intro h' e1 e2
      rw [apply_get l h' hl' b hb]
      by_cases m : b ∈ keysOf l
      · rw [if_pos m, if_pos (by simp only [keysOf, List.map_cons, List.mem_cons]; exact .inr m)]
      · rw [if_neg m]
        by_cases e : b = c
        · subst e
          rw [if_pos (by simp [keysOf]), e1]; exact hg.symm
        · rw [if_neg (by simp only [keysOf, List.map_cons, List.mem_cons, not_or]; exact ⟨e, m⟩), e2 b hb e]
    cases x with
    | some o => exact main (h.set c o) (get_set_same _ _ _) fun k hk hne => get_set_other h o hc hk (Ne.symm hne)
    | none => exact main (h.del c) (get_del_same _ _) fun k hk hne => get_del_other h hc hk (Ne.symm hne)

structure Step where
  f : FuncId
  args : List AV
  n : Nat
  pre : List (Nat × AObj)
  v : AV
  n' : Nat
  post : List (Nat × Option AObj)
def preL (l : List (Nat × AObj)) : List (Nat × Option AObj) := l.map fun p => (p.1, some p.2)
noncomputable def hpOf (h0 : Hp) (l : List (Nat × AObj)) : Hp := applyPost (preL l) h0

noncomputable def isAt (h : Hp) (b : Nat) (o : AObj) : Bool := match h.get b with
  | some o' => objEq o' o
  | none => false
theorem isAt_spec {h : Hp} {b : Nat} {o : AObj} (e : isAt h b o = true) : h.get b = some o := by
  unfold isAt at e
  split at e
  · rename_i o' ho; rw [ho, objEq_sound e]
  · simp at e
noncomputable def preB (h : Hp) (n : Nat) (l : List (Nat × AObj)) : Bool :=
  @List.rec (Nat × AObj) (fun _ => Bool) true (fun p _ ih => and (Nat.blt p.1 n) (and (isAt h p.1 p.2) ih)) l
theorem preB_spec {h : Hp} {n : Nat} : ∀ (l : List (Nat × AObj)), preB h n l = true → ∀ p, p ∈ l → p.1 < n ∧ h.get p.1 = some p.2
  | [], _, p, hp => by simp at hp
  | q :: l, e, p, hp => by
    have e : (Nat.blt q.1 n && (isAt h q.1 q.2 && preB h n l)) = true := e
    simp only [Bool.and_eq_true, blt_eq, decide_eq_true_eq] at e
    rcases List.mem_cons.1 hp with rfl | hp
    · exact ⟨e.1, isAt_spec e.2.1⟩
    · exact preB_spec l e.2.2 p hp
noncomputable def postB (h : Hp) (n : Nat) (l : List (Nat × Option AObj)) : Bool :=
  @List.rec (Nat × Option AObj) (fun _ => Bool) true (fun p _ ih => and (Nat.blt p.1 n) (and (match p.2 with
    | some o => isAt h p.1 o
    | none => (h.get p.1).isNone) ih)) l
theorem postB_spec {h : Hp} {n : Nat} : ∀ (l : List (Nat × Option AObj)), postB h n l = true → ∀ p, p ∈ l → p.1 < n ∧ h.get p.1 = p.2
  | [], _, p, hp => by simp at hp
  | q :: l, e, p, hp => by
    have e : (Nat.blt q.1 n && ((match q.2 with
      | some o => isAt h q.1 o
      | none => (h.get q.1).isNone) && postB h n l)) = true := e
    simp only [Bool.and_eq_true, blt_eq, decide_eq_true_eq] at e
    rcases List.mem_cons.1 hp with rfl | hp
    · refine ⟨e.1, ?_⟩
      have e2 := e.2.1
      split at e2
      · rename_i o ho; rw [ho]; exact isAt_spec e2
      · rename_i ho; rw [ho]; simpa using e2
    · exact postB_spec l e.2.2 p hp
def inKeys (b : Nat) (l : List (Nat × Option AObj)) : Bool := l.any fun q => Nat.beq q.1 b
theorem inKeys_spec {b : Nat} {l : List (Nat × Option AObj)} (h : inKeys b l = true) : b ∈ keysOf l := by
  simp only [inKeys, List.any_eq_true, Nat.beq_eq] at h
  obtain ⟨q, hq, rfl⟩ := h
  exact List.mem_map.2 ⟨q, hq, rfl⟩
noncomputable def keepB (h : Hp) (post : List (Nat × Option AObj)) (l : List (Nat × AObj)) : Bool :=
  @List.rec (Nat × AObj) (fun _ => Bool) true (fun p _ ih => and (match inKeys p.1 post with
    | true => true
    | false => isAt h p.1 p.2) ih) l
theorem keepB_spec {h : Hp} {post : List (Nat × Option AObj)} : ∀ (l : List (Nat × AObj)), keepB h post l = true → ∀ p, p ∈ l → p.1 ∈ keysOf post ∨ h.get p.1 = some p.2
  | [], _, p, hp => by simp at hp
  | q :: l, e, p, hp => by
    have e : ((match inKeys q.1 post with
      | true => true
      | false => isAt h q.1 q.2) && keepB h post l) = true := e
    simp only [Bool.and_eq_true] at e
    rcases List.mem_cons.1 hp with rfl | hp
    · have e1 := e.1
      split at e1
      · rename_i hi; exact .inl (inKeys_spec hi)
      · exact .inr (isAt_spec e1)
    · exact keepB_spec l e.2 p hp
/-- what is written of old blocks was read before -/
def lowB (n : Nat) (pre : List (Nat × AObj)) (post : List (Nat × Option AObj)) : Bool := post.all fun q => or (Nat.ble n q.1) (pre.any fun p => Nat.beq p.1 q.1)
theorem lowB_spec {n : Nat} {pre : List (Nat × AObj)} {post : List (Nat × Option AObj)} (h : lowB n pre post = true) {b : Nat} (hb : b ∈ keysOf post) (hn : b < n) : ∃ p, p ∈ pre ∧ p.1 = b := by
  obtain ⟨q, hq, rfl⟩ := List.mem_map.1 hb
  have := List.all_eq_true.1 h q hq
  simp only [Bool.or_eq_true, Nat.ble_eq, List.any_eq_true, Nat.beq_eq] at this
  rcases this with e | ⟨p, hp, e⟩
  · omega
  · exact ⟨p, hp, e⟩

noncomputable def checkK (s : Step) : KV := fun v h n => match and (avEq v s.v) (and (Nat.beq n s.n') (and (postB h s.n' s.post) (keepB h s.post s.pre))) with
  | true => .ok
  | false => .no 270

def Step.ok (P : Program) (G : Nat) (h0 : Hp) (s : Step) : Prop := ∀ (w0 : Base) (ρ : Ren) (h : Hp) (w : World), (∀ b, b + 4 < G → w0.K b) → StartOK G w0.w h0 → HRel G w0 ρ h s.n w → okvs ρ.d s.args →
  (∀ p, p ∈ s.pre → p.1 < s.n ∧ h.get p.1 = some p.2) →
  Calls P s.f (s.args.map (toV ρ)).toArray w fun e w' => ∃ ρ', e = .returned (toV ρ' s.v) ∧ okv ρ'.d s.v ∧ HRel G w0 ρ' (applyPost s.post h) s.n' w' ∧ Ext ρ h s.n ρ' (applyPost s.post h) s.n'

noncomputable def findT (f : FuncId) (args : List AV) (h : Hp) (n : Nat) : List Step → Option Step
  | [] => none
  | s :: l => match and (Nat.beq s.f f) (Nat.beq s.n n) with
    | true => match and (avsEq s.args args) (preB h n s.pre) with
      | true => some s
      | false => findT f args h n l
    | false => findT f args h n l
theorem findT_spec {f : FuncId} {args : List AV} {h : Hp} {n : Nat} {s : Step} : ∀ {l : List Step}, findT f args h n l = some s → s ∈ l ∧ s.f = f ∧ s.n = n ∧ s.args = args ∧ ∀ p, p ∈ s.pre → p.1 < n ∧ h.get p.1 = some p.2
  | [], e => by simp [findT] at e
  | q :: l, e => by
    simp only [findT] at e
    split at e
    · rename_i e1
      split at e
      · rename_i e2
        simp only [Option.some.injEq] at e; subst e
        simp only [Bool.and_eq_true, Nat.beq_eq] at e1 e2
        exact ⟨by simp, e1.1, e1.2, avsEq_sound _ _ e2.1, preB_spec _ e2.2⟩
      · obtain ⟨h1, h2⟩ := findT_spec e
        exact ⟨by simp [h1], h2⟩
    · obtain ⟨h1, h2⟩ := findT_spec e
      exact ⟨by simp [h1], h2⟩

def knownT (steps : List Step) (f : FuncId) : Bool := steps.any fun s => Nat.beq s.f f
noncomputable def funS (P : Program) (G F : Nat) (sums : List Sum1) (steps : List Step) (f : FuncId) : KB := match knownT steps f with
  | false => funB P G F sums f
  | true => ⟨fun self args h n k => match findT f args h n steps with
    | some s => k s.v (applyPost s.post h) s.n'
    | none => (funB P G F sums f).run self args h n k⟩
noncomputable def selfS (P : Program) (G F : Nat) (sums : List Sum1) (steps : List Step) (d : Nat) : Self :=
  @Nat.rec (fun _ => Self) (fun _ _ _ _ _ => .no 250) (fun _ ih f args h n k => (funS P G F sums steps f).run ih args h n k) d

section
variable {P : Program} {G F : Nat} {w0 : Base} {self : Self}

theorem funB_ok (hm : P.follows .mixedOrders = true) (hself : SelfOK P G w0 self) {h0 : Hp} {sums : List Sum1} (hs : ∀ s, s ∈ sums → s.ok P G h0) (hG : ∀ b, b + 4 < G → w0.K b) (hS : StartOK G w0.w h0)
    {f : FuncId} {args : List AV} {h : Hp} {n : Nat} {k : KV} {ρ : Ren} {w : World} (hr : (funB P G F sums f).run self args h n k = .ok) (H : HRel G w0 ρ h n w) (ha : okvs ρ.d args) :
    Calls P f (args.map (toV ρ)).toArray w (CallPost G w0 ρ h n k) := by
  unfold funB at hr
  split at hr
  · exact bodyB_ok hm hself hr H ha
  · simp only at hr
    split at hr
    · rename_i v hv
      obtain ⟨s, hin, rfl, rfl, rfl⟩ := findS_spec hv
      obtain ⟨b1, b2, b3⟩ := hs s hin
      have := b3 w H.room (H.start1 hG hS)
      have e : s.args.map (toV (ren0 G)) = s.args.map (toV ρ) := by
        rw [← toVs_map, ← toVs_map]; exact (bareAs_spec s.args b1 (fun _ => True) _ _).2
      rw [e] at this
      refine this.mono ?_
      rintro e w' ⟨rfl, bel⟩
      obtain ⟨c1, c2⟩ := bareA_spec s.v b2 ρ.d (ren0 G) ρ
      exact ⟨ρ, s.v, h, n, by rw [c2], c1, H.below' bel, Ext.refl _ _ _, hr⟩
    · exact bodyB_ok hm hself hr H ha

theorem selfS_ok (hm : P.follows .mixedOrders = true) {h0 : Hp} {sums : List Sum1} {steps : List Step} (hs : ∀ s, s ∈ sums → s.ok P G h0) (ht : ∀ s, s ∈ steps → s.ok P G h0) (hG : ∀ b, b + 4 < G → w0.K b)
    (hS : StartOK G w0.w h0) : ∀ d, SelfOK P G w0 (selfS P G F sums steps d)
  | 0 => fun f args h n k ρ w hr => by simp [selfS] at hr
  | d + 1 => fun f args h n k ρ w hr0 H ha => by
    have hself := selfS_ok hm hs ht hG hS d
    have hr : (funS P G F sums steps f).run (selfS P G F sums steps d) args h n k = .ok := hr0
    clear hr0
    unfold funS at hr
    split at hr
    · exact funB_ok hm hself hs hG hS hr H ha
    · simp only at hr
      split at hr
      · rename_i s hv
        obtain ⟨hin, rfl, rfl, rfl, hpre⟩ := findT_spec hv
        refine (ht s hin w0 ρ h w hG hS H ha hpre).mono ?_
        rintro e w' ⟨ρ', rfl, h1, h2, h3⟩
        exact ⟨ρ', s.v, _, _, rfl, h1, h2, h3, hr⟩
      · exact funB_ok hm hself hs hG hS hr H ha

/-- a run over the blocks alone tells of the call wherever these blocks are -/
theorem stepM (d : Nat) (hm : P.follows .mixedOrders = true) {h0 : Hp} {sums : List Sum1} {steps : List Step} (hs : ∀ s, s ∈ sums → s.ok P G h0) (ht : ∀ s, s ∈ steps → s.ok P G h0) {s : Step}
    (hlow : lowB s.n s.pre s.post = true) (hrun : selfS P G F sums steps d s.f s.args (hpOf h0 s.pre) s.n (checkK s) = .ok) : s.ok P G h0 := by
  intro w0 ρ h w hK hS H ha hpre
  -- the blocks that the call may turn
  let B : Base := ⟨w, fun a => a < w.heap.size ∧ ∀ p, p ∈ s.pre → ρ.d p.1 → G ≤ p.1 → a ≠ ρ.m p.1, fun _ h => h.1⟩
  have keyl : ∀ p, p ∈ preL s.pre → p.1 < keyMax ∧ h.get p.1 = p.2 := by
    intro p hp
    obtain ⟨q, hq, rfl⟩ := List.mem_map.1 hp
    obtain ⟨h1, h2⟩ := hpre q hq
    exact ⟨Nat.lt_of_lt_of_le h1 H.lim, h2⟩
  have hsget : ∀ b, b < keyMax → (hpOf h0 s.pre).get b = if b ∈ keysOf (preL s.pre) then h.get b else h0.get b := fun b hb => apply_get (g := fun b => h.get b) _ h0 keyl b hb
  have inpre : ∀ b, b ∈ keysOf (preL s.pre) → ∃ p, p ∈ s.pre ∧ p.1 = b := by
    intro b hb
    obtain ⟨q, hq, rfl⟩ := List.mem_map.1 hb
    obtain ⟨p, hp, rfl⟩ := List.mem_map.1 hq
    exact ⟨p, hp, rfl⟩
  have preIn : ∀ p, p ∈ s.pre → p.1 ∈ keysOf (preL s.pre) := fun p hp => List.mem_map.2 ⟨(p.1, some p.2), List.mem_map.2 ⟨p, hp, rfl⟩, rfl⟩
  -- what was to stay stays
  have keep : ∀ a, w0.K a → B.K a := by
    intro a hk
    refine ⟨Nat.lt_of_lt_of_le (w0.lt a hk) H.below.size, fun p hp hd hGp e => ?_⟩
    obtain ⟨h1, h2⟩ := hpre p hp
    exact H.own p.1 p.2 h1 h2 hd hGp (e ▸ hk)
  have Hs : HRel G B ρ (hpOf h0 s.pre) s.n w := by
    refine ⟨Keeps.refl B, H.lt, H.lim, H.gl, ?_, ?_, ?_, H.glob, fun g h1 h2 h3 => ⟨keep _ (H.arg g h1 h2 h3).1, (H.arg g h1 h2 h3).2⟩, H.in_, ?_⟩
    · intro b o hb hget hd
      rw [hsget b (H.key hb)] at hget
      split at hget
      · exact H.obj b o hb hget hd
      · rcases Nat.lt_or_ge b G with hlt | hge
        · obtain ⟨h4, x, hx, r⟩ := hS.1 b o hlt hget
          refine ⟨x, ?_, ?_⟩
          · rw [(H.glob b h4).2, H.below.block b (hK b h4)]; exact hx
          · exact r ρ _
        · rw [hS.2 b hge (H.key hb)] at hget; simp at hget
    · intro b o hb hget hd hGb
      rw [hsget b (H.key hb)] at hget
      split at hget
      · rename_i hin
        obtain ⟨p, hp, rfl⟩ := inpre b hin
        exact fun hk => hk.2 p hp hd hGb rfl
      · rw [hS.2 b hGb (H.key hb)] at hget; simp at hget
    · intro b b' o o' hb hb' hget hget' hd hd' e
      rw [hsget b (H.key hb)] at hget
      rw [hsget b' (H.key hb')] at hget'
      have low : ∀ c oc, c < s.n → h0.get c = some oc → c + 4 < G := by
        intro c oc hc hg
        rcases Nat.lt_or_ge c G with hlt | hge
        · exact (hS.1 c oc hlt hg).1
        · rw [hS.2 c hge (H.key hc)] at hg; simp at hg
      have mixed : ∀ c c' oc, c < s.n → h.get c = some oc → ρ.d c → c' + 4 < G → ρ.m c = ρ.m c' → c = c' := by
        intro c c' oc hc hg hdc hc' e
        rw [(H.glob c' hc').2] at e
        rcases Nat.lt_or_ge c G with hlt | hge
        · rcases Nat.lt_or_ge (c + 4) G with hlt4 | hge4
          · rw [(H.glob c hlt4).2] at e; exact e
          · exact absurd e ((H.arg c hlt hge4 hdc).2.1 c' hc')
        · exact absurd (show w0.K (ρ.m c) by rw [e]; exact hK c' hc') (H.own c oc hc hg hdc hge)
      split at hget <;> split at hget'
      · exact H.inj b b' o o' hb hb' hget hget' hd hd' e
      · exact mixed b b' o hb hget hd (low b' o' hb' hget') e
      · exact (mixed b' b o' hb' hget' hd' (low b o hb hget) e.symm).symm
      · have l1 := low b o hb hget
        have l2 := low b' o' hb' hget'
        rw [(H.glob b l1).2, (H.glob b' l2).2] at e
        exact e
    · intro b hb hm'
      rw [hsget b hm']
      split
      · exact H.top b hb hm'
      · exact hS.2 b (Nat.le_trans H.gl hb) hm'
  have hSB : StartOK G B.w h0 := H.start1 hK hS
  refine (selfS_ok (w0 := B) hm hs ht (fun b hb => keep b (hK b hb)) hSB d s.f s.args _ s.n _ ρ w hrun Hs ha).mono ?_
  rintro e w' ⟨ρ', v, h'', n'', rfl, hv, H'', E, hk⟩
  simp only [checkK] at hk
  split at hk
  · rename_i hc
    simp only [Bool.and_eq_true, Nat.beq_eq] at hc
    obtain ⟨c1, c2, c3, c4⟩ := hc
    obtain rfl := avEq_sound _ _ c1
    subst c2
    have hpost := postB_spec _ c3
    have hkeep := keepB_spec _ c4
    have postl : ∀ p, p ∈ s.post → p.1 < keyMax ∧ h''.get p.1 = p.2 := fun p hp => ⟨Nat.lt_of_lt_of_le (hpost p hp).1 H''.lim, (hpost p hp).2⟩
    have hres : ∀ b, b < keyMax → (applyPost s.post h).get b = if b ∈ keysOf s.post then h''.get b else h.get b := fun b hb => apply_get (g := fun b => h''.get b) _ h postl b hb
    -- a block of the new heap: one that the call knows, or an old one that it does not
    have cases3 : ∀ b o, b < s.n' → (applyPost s.post h).get b = some o → ρ'.d b → h''.get b = some o ∨ (b < s.n ∧ h.get b = some o ∧ ρ.d b ∧ B.K (ρ.m b) ∧ ∀ p, p ∈ s.pre → p.1 ≠ b) := by
      intro b o hb hget hd
      have hbk := H''.key hb
      rw [hres b hbk] at hget
      split at hget
      · exact .inl hget
      · rename_i hnp
        have hbn : b < s.n := by
          rcases Nat.lt_or_ge b s.n with hlt | hge
          · exact hlt
          · rw [H.top b hge hbk] at hget; simp at hget
        by_cases hin : ∃ p, p ∈ s.pre ∧ p.1 = b
        · obtain ⟨p, hp, rfl⟩ := hin
          rcases hkeep p hp with h1 | h1
          · exact absurd h1 hnp
          · rw [(hpre p hp).2] at hget
            exact .inl (h1.trans hget)
        · have hdb : ρ.d b := Classical.byContradiction fun hnd => (E.pend b hbn hnd).1 hd
          refine .inr ⟨hbn, hget, hdb, ⟨H.in_ b hdb, fun p hp hdp hGp e => ?_⟩, fun p hp e => hin ⟨p, hp, e⟩⟩
          obtain ⟨h1, h2⟩ := hpre p hp
          exact hin ⟨p, hp, (H.inj b p.1 o p.2 hbn h1 hget h2 hdb hdp e).symm⟩
    refine ⟨ρ', rfl, hv, ⟨?_, H''.lt, H''.lim, H''.gl, ?_, ?_, ?_, H''.glob, ?_, H''.in_, ?_⟩, ⟨E.le, E.more, ?_⟩⟩
    · have hb := H''.below
      exact ⟨hb.os.trans H.below.os, hb.tape.trans H.below.tape, hb.output.trans H.below.output, Nat.le_trans H.below.size hb.size, fun a hk => (hb.block a (keep a hk)).trans (H.below.block a hk)⟩
    · intro b o hb hget hd
      rcases cases3 b o hb hget hd with h1 | ⟨hbn, h1, hdb, hkb, _⟩
      · exact H''.obj b o hb h1 hd
      · obtain ⟨x, hx, r⟩ := H.obj b o hbn h1 hdb
        refine ⟨x, ?_, ?_⟩
        · rw [E.le.m b hdb, H''.below.block _ hkb]; exact hx
        · rw [E.le.e b hdb]; exact r.le E.le
    · intro b o hb hget hd hGb
      rcases cases3 b o hb hget hd with h1 | ⟨hbn, h1, hdb, hkb, _⟩
      · exact fun hk => H''.own b o hb h1 hd hGb (keep _ hk)
      · rw [E.le.m b hdb]; exact H.own b o hbn h1 hdb hGb
    · intro b b' o o' hb hb' hget hget' hd hd' e
      have mixed : ∀ c c' oc oc', c < s.n' → h''.get c = some oc → ρ'.d c → c' < s.n → h.get c' = some oc' → ρ.d c' → B.K (ρ.m c') → ρ'.m c = ρ'.m c' → c = c' := by
        intro c c' oc oc' hc hg hdc hc' hg' hdc' hkc e
        rw [E.le.m c' hdc'] at e
        rcases Nat.lt_or_ge c G with hlt | hge
        · rcases Nat.lt_or_ge (c + 4) G with hlt4 | hge4
          · rw [(H''.glob c hlt4).2] at e
            rcases Nat.lt_or_ge c' G with hlt' | hge'
            · rcases Nat.lt_or_ge (c' + 4) G with hlt4' | hge4'
              · rw [(H.glob c' hlt4').2] at e; exact e
              · exact absurd e.symm ((H.arg c' hlt' hge4' hdc').2.1 c hlt4)
            · exact absurd (show w0.K (ρ.m c') by rw [← e]; exact hK c hlt4) (H.own c' oc' hc' hg' hdc' hge')
          · have hdc0 : ρ.d c := Classical.byContradiction fun hnd => (E.pend c (Nat.lt_of_lt_of_le hlt H.gl) hnd).1 hdc
            rw [E.le.m c hdc0] at e
            obtain ⟨a1, a2, a3⟩ := H.arg c hlt hge4 hdc0
            rcases Nat.lt_or_ge c' G with hlt' | hge'
            · rcases Nat.lt_or_ge (c' + 4) G with hlt4' | hge4'
              · rw [(H.glob c' hlt4').2] at e; exact absurd e (a2 c' hlt4')
              · exact a3 c' hlt' hge4' hdc' e
            · exact absurd (show w0.K (ρ.m c') by rw [← e]; exact a1) (H.own c' oc' hc' hg' hdc' hge')
        · exact absurd (show B.K (ρ'.m c) by rw [e]; exact hkc) (H''.own c oc hc hg hdc hge)
      rcases cases3 b o hb hget hd with h1 | ⟨hbn, h1, hdb, hkb, _⟩ <;> rcases cases3 b' o' hb' hget' hd' with h1' | ⟨hbn', h1', hdb', hkb', _⟩
      · exact H''.inj b b' o o' hb hb' h1 h1' hd hd' e
      · exact mixed b b' o o' hb h1 hd hbn' h1' hdb' hkb' e
      · exact (mixed b' b o' o hb' h1' hd' hbn h1 hdb hkb e.symm).symm
      · rw [E.le.m b hdb, E.le.m b' hdb'] at e
        exact H.inj b b' o o' hbn hbn' h1 h1' hdb hdb' e
    · intro g h1 h2 h3
      have back : ∀ c, c < G → ρ'.d c → ρ.d c := fun c hc hdc => Classical.byContradiction fun hnd => (E.pend c (Nat.lt_of_lt_of_le hc H.gl) hnd).1 hdc
      have hd0 := back g h1 h3
      obtain ⟨a1, a2, a3⟩ := H.arg g h1 h2 hd0
      rw [E.le.m g hd0]
      refine ⟨a1, a2, fun g' k1 k2 k3 e => ?_⟩
      have hd1 := back g' k1 k3
      rw [E.le.m g' hd1] at e
      exact a3 g' k1 k2 hd1 e
    · intro b hb hm'
      rw [hres b hm']
      split
      · rename_i hin
        obtain ⟨q, hq, rfl⟩ := List.mem_map.1 hin
        have := (hpost q hq).1
        omega
      · exact H.top b (Nat.le_trans E.more hb) hm'
    · intro b hbn hnd
      obtain ⟨h1, h2⟩ := E.pend b hbn hnd
      refine ⟨h1, ?_⟩
      rw [hres b (H.key hbn)]
      split
      · rename_i hin
        obtain ⟨p, hp, rfl⟩ := lowB_spec hlow hin hbn
        rw [h2, hsget _ (H.key hbn), if_pos (preIn p hp)]
      · rfl
  · simp at hk
end

/-- a law's run, known calls and steps at hand; its arguments may be unknown numbers -/
theorem vaiL {P : Program} {G F : Nat} (d : Nat) {h0 : Hp} {sums : List Sum1} {steps : List Step} (sv : Nat → Int) (hm : P.follows .mixedOrders = true) (hG : Nat.blt G 16777216 = true)
    (hs : ∀ s, s ∈ sums → s.ok P G h0) (ht : ∀ s, s ∈ steps → s.ok P G h0) {f : FuncId} {args : List AV} {v : AV} (ha : ∀ d : Nat → Prop, okvs d args) (hv : bareA v = true)
    (hrun : selfS P G F sums steps d f args h0 G (same v) = .ok) (w : World) (hw : G ≤ w.heap.size + 4) (hS : StartOK G w h0) :
    Calls P f (args.map (toV (ren0 G sv))).toArray w fun e w' => e = .returned (toV (ren0 G sv) v) ∧ Below w.heap.size w w' := by
  have H : HRel G (Base.all w) (ren0 G sv) h0 G w := HRel.startAt sv (by unfold keyMax; simpa using hG) hw hS
  refine (selfS_ok (w0 := Base.all w) hm hs ht (fun b hb => (show b < w.heap.size by omega)) hS d f args h0 G _ (ren0 G sv) w hrun H (ha _)).mono ?_
  rintro e w' ⟨ρ', u, h', n', rfl, _, H', _, hk⟩
  refine ⟨?_, H'.below.all⟩
  simp only [same] at hk
  split at hk
  · rename_i e
    rw [avEq_sound _ _ e, (bareA_spec v hv (fun _ => True) ρ' (ren0 G sv)).2]
  · simp at hk
theorem lint1 {G : Nat} {sv : Nat → Int} {k : IntKind} {c a lo n : Int} {j w : Nat} (h1 : lo ≤ sv j) (h2 : sv j ≤ lo + w) (h3 : a * sv j + c = n) :
    toV (ren0 G sv) (.lint k c [⟨j, a, lo, w⟩]) = .int k n := by
  simp only [toV, linV, LV.val, ren0]
  rw [clampI_self h1 h2, h3]
/-- a known call, found by a run with steps -/
theorem vaiT {P : Program} {G F : Nat} (d : Nat) {h0 : Hp} {sums : List Sum1} {steps : List Step} (hm : P.follows .mixedOrders = true) (hG : Nat.blt G 16777216 = true)
    (hs : ∀ s, s ∈ sums → s.ok P G h0) (ht : ∀ s, s ∈ steps → s.ok P G h0) {f : FuncId} {args : List AV} {v : AV} (ha : bareAs args = true) (hv : bareA v = true)
    (hrun : selfS P G F sums steps d f args h0 G (same v) = .ok) : (Sum1.mk f args v).ok P G h0 :=
  ⟨ha, hv, fun w hw hS => vaiL d (fun _ => 0) hm hG hs ht (fun d => (bareAs_spec args ha d (ren0 G) (ren0 G)).1) hv hrun w hw hS⟩
end Go.Vai
