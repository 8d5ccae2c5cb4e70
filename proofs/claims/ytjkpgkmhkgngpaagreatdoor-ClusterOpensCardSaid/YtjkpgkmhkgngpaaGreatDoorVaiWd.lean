/- A region in every order: the proof. -/
import Derived.Test.YtjkpgkmhkgngpaaGreatDoorVaiWc
namespace Go.Vai
open Go.RowKit

theorem pair_or {α : Type} {R : α → α → Prop} : ∀ {l : List α}, l.Pairwise R → ∀ p q, p ∈ l → q ∈ l → p = q ∨ R p q ∨ R q p
  | [], _, p, _, hp, _ => by simp at hp
  | x :: l, h, p, q, hp, hq => by
    rw [List.pairwise_cons] at h
    rcases List.mem_cons.1 hp with e | hp'
    · rcases List.mem_cons.1 hq with e' | hq'
      · exact .inl (e.trans e'.symm)
      · exact .inr (.inl (e ▸ h.1 q hq'))
    · rcases List.mem_cons.1 hq with e' | hq'
      · exact .inr (.inr (e' ▸ h.1 p hp'))
      · exact pair_or h.2 p q hp' hq'

section
variable {P : Program} {G N : Nat} {w0 : Base} {ops : Array Oper} {C : List RO} {self : Self} {k : KR} {ρ0 : Ren} {h0 : Hp} {nx0 : Nat}
  {L : Array Bool} {a : Act} {w : World} {D cs : List RO} {t tL : T} {h : Hp} {nx : Nat} {ρ : Ren} {B : Nat → Option Nat}

theorem Pend.turn {q : RO} {ρ' : Ren} {t' : T} {h' : Hp} {nx' : Nat} {B' : Nat → Option Nat} (hp : Pend nx0 ρ t h nx B q) (hl : ∀ s, q.looks s → slot t' s = slot t s)
    (hd : ∀ d, q.dst = some d → slot t' d = slot t d)
    (hr : wantedA q.g t' = true → ∀ f, q.oc = .read f → ∃ v, f (restrict q.rs t') h' = some v ∧ ∀ d, q.dst = some d → slot t' d = v)
    (hn : ∀ b, B q.i = some b → ¬ ρ.d b → b < nx → ¬ ρ'.d b ∧ h'.get b = h.get b ∧ B' q.i = some b) (hx : nx ≤ nx') : Pend nx0 ρ' t' h' nx' B' q := by
  obtain ⟨h1, h2, h3⟩ := hp
  obtain ⟨e1, e2⟩ := sees_congr hl
  refine ⟨⟨h1.1, by rw [knownG_congr (t' := t) fun s b e => hl s (.inr ⟨b, e⟩)]; exact h1.2⟩, fun hw d e => by rw [hd d e]; exact h2 (e1 ▸ hw) d e, fun hw => ?_⟩
  obtain ⟨v, hv, hk⟩ := h3 (e1 ▸ hw)
  have hr := hr hw
  rw [e2] at *
  cases hoc : q.oc with
  | pure f =>
    rw [hoc] at hk
    exact ⟨v, fun d e => by rw [hd d e]; exact hv d e, hk⟩
  | read f =>
    obtain ⟨u, hu, hdu⟩ := hr f hoc
    exact ⟨u, hdu, hu⟩
  | new f =>
    rw [hoc] at hk
    obtain ⟨ob, f', b, k1, k2, k3, k4, k5, k6, k7⟩ := hk
    obtain ⟨n1, n2, n3⟩ := hn b k7 k4 k6
    exact ⟨v, fun d e => by rw [hd d e]; exact hv d e, ob, f', b, k1, k2, n2.trans k3, n1, k5, Nat.lt_of_lt_of_le k6 hx, n3⟩
  | _ => rw [hoc] at hk; exact hk.elim

theorem Pend.reads {q : RO} (hp : Pend nx0 ρ t h nx B q) (hw : wantedA q.g t = true) (f : T → Hp → Option AV) (hf : q.oc = .read f) :
    ∃ v, f (restrict q.rs t) h = some v ∧ ∀ d, q.dst = some d → slot t d = v := by
  obtain ⟨v, hv, hk⟩ := hp.2.2 hw
  rw [hf] at hk
  exact ⟨v, hk, hv⟩

theorem Plan.looks_lim (pl : Plan P G N ops C) {q : RO} (hq : q ∈ C) {s : Nat} (hs : q.looks s) : s < N := by
  obtain ⟨o, ho⟩ := pl.ok q hq
  rcases hs with hs | ⟨b, hs⟩
  · exact ho.lim s hs
  · have := ho.g
    rw [hs] at this
    obtain ⟨_, _, _, h⟩ := this
    exact h

theorem Inv0.memD (_ : Plan P G N ops C) (I : Inv0 P G N w0 ops C self k ρ0 h0 nx0 L a w D cs t tL h nx ρ B) {q : RO} (hq : q ∈ D) : q ∈ C := by rw [I.split]; simp [hq]
theorem Inv0.memC (_ : Plan P G N ops C) (I : Inv0 P G N w0 ops C self k ρ0 h0 nx0 L a w D cs t tL h nx ρ B) {q : RO} (hq : q ∈ cs) : q ∈ C := by rw [I.split]; simp [hq]
theorem Inv0.two (pl : Plan P G N ops C) (I : Inv0 P G N w0 ops C self k ρ0 h0 nx0 L a w D cs t tL h nx ρ B) {p q : RO} (hp : p ∈ D) (hq : q ∈ cs) : Two p q := by
  have := pl.two
  rw [I.split, List.pairwise_append] at this
  exact this.2.2 p (by simpa using hp) q hq
theorem Inv0.fresh (pl : Plan P G N ops C) (I : Inv0 P G N w0 ops C self k ρ0 h0 nx0 L a w D cs t tL h nx ρ B) {q : RO} (hq : q ∈ cs) : ¬ Ls L q.i := by
  intro hl
  obtain ⟨p, hp, e⟩ := I.sub q.i hl
  exact (I.two pl hp hq).ne e

theorem Inv0.push (pl : Plan P G N ops C) {q : RO} (I : Inv0 P G N w0 ops C self k ρ0 h0 nx0 L a w D (q :: cs) t tL h nx ρ B) (heff : q.eff = false) {v : AV} {h' : Hp} {nx' : Nat} {B' : Nat → Option Nat}
    (hH : HRel G w0 ρ h' nx' w) (hE : Ext ρ h nx ρ h' nx') (hp : Pend nx0 ρ (setD q.dst v t) h' nx' B' q)
    (hr : ∀ p, p ∈ D → ¬ Ls L p.i → wantedA p.g (setD q.dst v t) = true → ∀ f, p.oc = .read f → ∃ u, f (restrict p.rs (setD q.dst v t)) h' = some u ∧ ∀ d, p.dst = some d → slot (setD q.dst v t) d = u)
    (hB : ∀ i, i ≠ q.i → B' i = B i) (inj : ∀ i j b, B' i = some b → B' j = some b → i = j) (bnd : ∀ i b, B' i = some b → b < nx')
    (hrun : runC self k (q :: D) cs (setD q.dst v t) h' nx' = .ok) : Inv0 P G N w0 ops C self k ρ0 h0 nx0 L a w (q :: D) cs (setD q.dst v t) tL h' nx' ρ B' := by
  have hqC : q ∈ C := I.memC pl (by simp)
  obtain ⟨o, ho⟩ := pl.ok q hqC
  have hN := I.A.slots.lim
  have hf : ¬ Ls L q.i := I.fresh pl (by simp)
  refine ⟨I.size, by rw [I.split]; simp, fun i hi => ?_, I.down, hH, I.E.trans hE, I.A, ?_, ?_, ?_, inj, bnd, hrun⟩
  · obtain ⟨p, hp, e⟩ := I.sub i hi
    exact ⟨p, by simp [hp], e⟩
  · intro s hs hq
    rw [slot_setD hN ho.dlim hs, if_neg (hq q (by simp) hf)]
    exact I.same s hs fun p hp => hq p (by simp [hp])
  · rw [defsOf_setD]; exact I.defs
  · intro p hpD hl
    rcases List.mem_cons.1 hpD with rfl | hpD
    · exact hp
    · have tw := I.two pl hpD (q := q) (by simp)
      obtain ⟨o', ho'⟩ := pl.ok p (I.memD pl hpD)
      refine (I.pend p hpD hl).turn ?_ ?_ (hr p hpD hl) ?_ hE.more
      · intro s hs
        have hsN := pl.looks_lim (I.memD pl hpD) hs
        rw [slot_setD hN ho.dlim hsN, if_neg]
        intro e
        have := (tw.war s e hs).1
        rw [heff] at this
        exact absurd this (by simp)
      · intro d hd
        rw [slot_setD hN ho.dlim (ho'.dlim d hd), if_neg (tw.dd d hd)]
      · intro b hb hd hbn
        obtain ⟨e1, e2⟩ := hE.pend b hbn hd
        exact ⟨e1, e2, by rw [hB _ tw.ne]; exact hb⟩

theorem Inv0.advance (pl : Plan P G N ops C) (cs : List RO) : ∀ {D : List RO} {t : T} {h : Hp} {nx : Nat} {B : Nat → Option Nat},
    Inv0 P G N w0 ops C self k ρ0 h0 nx0 L a w D cs t tL h nx ρ B → Inv P G N w0 ops C self k ρ0 h0 nx0 L a w := by
  induction cs with
  | nil => exact fun I => ⟨_, _, _, _, _, _, _, _, I, fun _ _ e => by simp at e⟩
  | cons q cs ih =>
    intro D t h nx B I
    cases heff : q.eff with
    | true => exact ⟨_, _, _, _, _, _, _, _, I, fun q' cs' e => by simp only [List.cons.injEq] at e; rw [← e.1]; exact heff⟩
    | false =>
      have hqC : q ∈ C := I.memC pl (by simp)
      obtain ⟨o, ho⟩ := pl.ok q hqC
      have hN := I.A.slots.lim
      have sees : ∀ v, wantedA q.g (setD q.dst v t) = wantedA q.g t ∧ restrict q.rs (setD q.dst v t) = restrict q.rs t := fun v =>
        sees_congr fun s hs => by
          rw [slot_setD hN ho.dlim (pl.looks_lim hqC hs), if_neg]
          exact fun e => ho.self s e hs
      have at_ : ∀ v d, q.dst = some d → slot (setD q.dst v t) d = v := fun v d hd => by
        rw [slot_setD hN ho.dlim (ho.dlim d hd), if_pos hd]
      have keep : ∀ v p, p ∈ D → ¬ Ls L p.i → wantedA p.g (setD q.dst v t) = true → ∀ f, p.oc = .read f →
          ∃ u, f (restrict p.rs (setD q.dst v t)) h = some u ∧ ∀ d, p.dst = some d → slot (setD q.dst v t) d = u := by
        intro v p hp hl hw f hf
        have tw := I.two pl hp (q := q) (by simp)
        obtain ⟨o', ho'⟩ := pl.ok p (I.memD pl hp)
        obtain ⟨e1, e2⟩ : wantedA p.g (setD q.dst v t) = wantedA p.g t ∧ restrict p.rs (setD q.dst v t) = restrict p.rs t :=
          sees_congr fun s hs => by
            rw [slot_setD hN ho.dlim (pl.looks_lim (I.memD pl hp) hs), if_neg]
            intro e
            have := (tw.war s e hs).1
            rw [heff] at this
            exact absurd this (by simp)
        obtain ⟨u, hu, hd⟩ := (I.pend p hp hl).reads (e1 ▸ hw) f hf
        refine ⟨u, by rw [e2]; exact hu, fun d e => ?_⟩
        rw [slot_setD hN ho.dlim (ho'.dlim d e), if_neg (tw.dd d e)]
        exact hd d e
      have hrun : stepC D q self (runC self k (q :: D) cs) t h nx = .ok := I.run
      unfold stepC at hrun
      split at hrun
      · simp at hrun
      rename_i hkn
      have kn : ∀ v, knownG q.g (setD q.dst v t) = true := fun v => by
        rw [knownG_congr (t' := t) fun s b e => ?_]
        · exact hkn
        · rw [slot_setD hN ho.dlim (pl.looks_lim hqC (.inr ⟨b, e⟩)), if_neg]
          exact fun e' => ho.self s e' (.inr ⟨b, e⟩)
      split at hrun
      · rename_i hw
        exact ih (I.push pl heff I.H (Ext.refl _ _ _)
          ⟨⟨heff, kn _⟩, fun _ => at_ undefA, fun hw' => by rw [(sees undefA).1, hw] at hw'; exact absurd hw' (by simp)⟩ (keep undefA) (fun _ _ => rfl) I.inj I.bnd hrun)
      · rename_i hw
        rw [heff] at hrun
        simp only at hrun
        split at hrun
        · rename_i f hoc
          split at hrun
          · rename_i v hv
            exact ih (I.push pl heff I.H (Ext.refl _ _ _)
              ⟨⟨heff, kn _⟩, fun hw' => by rw [(sees v).1, hw] at hw'; exact absurd hw' (by simp), fun _ => ⟨v, at_ v, by rw [hoc]; simp only; rw [(sees v).2]; exact hv⟩⟩
              (keep v) (fun _ _ => rfl) I.inj I.bnd hrun)
          · simp at hrun
        · rename_i f hoc
          split at hrun
          · rename_i v hv
            exact ih (I.push pl heff I.H (Ext.refl _ _ _)
              ⟨⟨heff, kn _⟩, fun hw' => by rw [(sees v).1, hw] at hw'; exact absurd hw' (by simp), fun _ => ⟨v, at_ v, by rw [hoc]; simp only; rw [(sees v).2]; exact hv⟩⟩
              (keep v) (fun _ _ => rfl) I.inj I.bnd hrun)
          · simp at hrun
        · rename_i f hoc
          split at hrun
          · rename_i p hp
            obtain ⟨ob, f'⟩ := p
            split at hrun
            · rename_i hn
              rw [blt_eq] at hn
              have hn : nx < keyMax := by unfold keyMax; exact of_decide_eq_true hn
              split at hrun
              · rename_i hrc
                obtain ⟨H', E'⟩ := I.H.pend ob hn
                refine ih (I.push pl heff (v := nv f' nx) (B' := fun i => if i = q.i then some nx else B i) H' E'
                  ⟨⟨heff, kn _⟩, fun hw' => by rw [(sees _).1, hw] at hw'; exact absurd hw' (by simp), fun _ => ⟨_, at_ _, ?_⟩⟩ ?_ (fun i hi => if_neg hi) ?_ ?_ hrun)
                · rw [hoc]; simp only
                  rw [(sees _).2]
                  exact ⟨ob, f', nx, hp, rfl, get_set_same _ _ _, fun hd => Nat.lt_irrefl _ (I.H.lt nx hd), I.E.more, Nat.lt_succ_self _, by simp⟩
                · intro p hp hl hw f hf
                  exact recheck_spec _ hrc p (List.mem_filter.2 ⟨hp, by simp [isRead, hf]⟩) hw f hf
                · intro i j b hi hj
                  by_cases ei : i = q.i <;> by_cases ej : j = q.i
                  · rw [ei, ej]
                  · simp only [ei, ej, if_true, if_false, Option.some.injEq] at hi hj
                    have := I.bnd j b hj
                    omega
                  · simp only [ei, ej, if_true, if_false, Option.some.injEq] at hi hj
                    have := I.bnd i b hi
                    omega
                  · simp only [ei, ej, if_false] at hi hj
                    exact I.inj i j b hi hj
                · intro i b hi
                  by_cases ei : i = q.i
                  · simp only [ei, if_true, Option.some.injEq] at hi; omega
                  · simp only [ei, if_false] at hi
                    have := I.bnd i b hi
                    omega
              · simp at hrun
            · simp at hrun
          · simp at hrun
        · simp at hrun

/-- the world does what was done here before -/
theorem Inv0.take (pl : Plan P G N ops C) {q : RO} (I : Inv0 P G N w0 ops C self k ρ0 h0 nx0 L a w D cs t tL h nx ρ B) (hq : q ∈ D) (hanc : ∀ j, q.anc j = true → Ls L j)
    {v : AV} {ρ' : Ren} {w' : World} (hv : ∀ d, q.dst = some d → slot t d = v) (hH : HRel G w0 ρ' h nx w') (hE : Ext ρ0 h0 nx0 ρ' h nx) (hle : ρ.Le ρ') (hok : okv ρ'.d v)
    (hn : ∀ p, p ∈ D → p.i ≠ q.i → ∀ b, B p.i = some b → ¬ ρ.d b → ¬ ρ'.d b) :
    Inv0 P G N w0 ops C self k ρ0 h0 nx0 (L.setIfInBounds q.i true) (a.put q.dst (toV ρ' v)) w' D cs t (setD q.dst v tL) h nx ρ' B := by
  have hqC := I.memD pl hq
  obtain ⟨o, ho⟩ := pl.ok q hqC
  have hN := I.A.slots.lim
  have hi : q.i < L.size := by rw [I.size]; exact (Array.getElem?_eq_some_iff.1 ho.at_).1
  have hd : dstIn N q.dst = true := by
    cases e : q.dst with
    | none => rfl
    | some d => simp only [dstIn, blt_eq]; exact decide_eq_true (ho.dlim d e)
  have uniq : ∀ p, p ∈ C → p.i = q.i → p = q := fun p hp e => by
    rcases pair_or pl.two p q hp hqC with h | h | h
    · exact h
    · exact absurd e h.ne
    · exact absurd e.symm h.ne
  refine ⟨by simp [I.size], I.split, fun i h => ?_, fun p hp hl j hj => ?_, hH, hE, (I.A.le hle).put hd hok, ?_, ?_, ?_, I.inj, I.bnd, I.run⟩
  · rcases (Ls_set hi).1 h with rfl | h
    · exact ⟨q, hq, rfl⟩
    · exact I.sub i h
  · refine (Ls_set hi).2 (.inr ?_)
    rcases (Ls_set hi).1 hl with e | hl
    · exact hanc j (uniq p hp e ▸ hj)
    · exact I.down p hp hl j hj
  · intro s hs hp
    rw [slot_setD hN ho.dlim hs]
    split
    · rename_i e; exact hv s e
    · rename_i e
      refine I.same s hs fun p hpD hl => ?_
      by_cases ep : p.i = q.i
      · rw [uniq p (I.memD pl hpD) ep]; exact e
      · exact hp p hpD fun h => by
          rcases (Ls_set hi).1 h with h | h
          · exact ep h
          · exact hl h
  · rw [defsOf_setD]; exact I.defs
  · intro p hpD hl
    have ne : p.i ≠ q.i := fun e => hl ((Ls_set hi).2 (.inl e))
    have hl' : ¬ Ls L p.i := fun e => hl ((Ls_set hi).2 (.inr e))
    exact (I.pend p hpD hl').turn (fun _ _ => rfl) (fun _ _ => rfl) (fun hw f hf => (I.pend p hpD hl').reads hw f hf)
      (fun b hb hd _ => ⟨hn p hpD ne b hb hd, rfl, hb⟩) (Nat.le_refl _)

/-- the world and the evaluator do one together -/
theorem Inv0.both (pl : Plan P G N ops C) {q : RO} (I : Inv0 P G N w0 ops C self k ρ0 h0 nx0 L a w D (q :: cs) t tL h nx ρ B) (hanc : ∀ j, q.anc j = true → Ls L j)
    {v : AV} {ρ' : Ren} {h' : Hp} {nx' : Nat} {w' : World} (hH : HRel G w0 ρ' h' nx' w') (hE : Ext ρ h nx ρ' h' nx') (hok : okv ρ'.d v)
    (hr : ∀ p, p ∈ D → ¬ Ls L p.i → wantedA p.g (setD q.dst v t) = true → ∀ f, p.oc = .read f → ∃ u, f (restrict p.rs (setD q.dst v t)) h' = some u ∧ ∀ d, p.dst = some d → slot (setD q.dst v t) d = u)
    (hrun : runC self k (q :: D) cs (setD q.dst v t) h' nx' = .ok) :
    Inv0 P G N w0 ops C self k ρ0 h0 nx0 (L.setIfInBounds q.i true) (a.put q.dst (toV ρ' v)) w' (q :: D) cs (setD q.dst v t) (setD q.dst v tL) h' nx' ρ' B := by
  have hqC : q ∈ C := I.memC pl (by simp)
  obtain ⟨o, ho⟩ := pl.ok q hqC
  have hN := I.A.slots.lim
  have hi : q.i < L.size := by rw [I.size]; exact (Array.getElem?_eq_some_iff.1 ho.at_).1
  have hd : dstIn N q.dst = true := by
    cases e : q.dst with
    | none => rfl
    | some d => simp only [dstIn, blt_eq]; exact decide_eq_true (ho.dlim d e)
  refine ⟨by simp [I.size], by rw [I.split]; simp, fun i h => ?_, fun p hp hl j hj => ?_, hH, I.E.trans hE, (I.A.le hE.le).put hd hok, ?_, ?_, ?_, I.inj,
    fun i b hb => Nat.lt_of_lt_of_le (I.bnd i b hb) hE.more, hrun⟩
  · rcases (Ls_set hi).1 h with rfl | h
    · exact ⟨q, by simp, rfl⟩
    · obtain ⟨p, hp, e⟩ := I.sub i h
      exact ⟨p, by simp [hp], e⟩
  · refine (Ls_set hi).2 (.inr ?_)
    rcases (Ls_set hi).1 hl with e | hl
    · have : p = q := by
        rcases pair_or pl.two p q hp hqC with h | h | h
        · exact h
        · exact absurd e h.ne
        · exact absurd e.symm h.ne
      exact hanc j (this ▸ hj)
    · exact I.down p hp hl j hj
  · intro s hs hp
    rw [slot_setD hN ho.dlim hs, slot_setD hN ho.dlim hs]
    split
    · rfl
    · refine I.same s hs fun p hpD hl => hp p (by simp [hpD]) fun h => ?_
      rcases (Ls_set hi).1 h with e | h
      · exact (I.two pl hpD (q := q) (by simp)).ne e
      · exact hl h
  · rw [defsOf_setD, defsOf_setD]; exact I.defs
  · intro p hpD hl
    rcases List.mem_cons.1 hpD with rfl | hpD
    · exact absurd ((Ls_set hi).2 (.inl rfl)) hl
    · have hl' : ¬ Ls L p.i := fun e => hl ((Ls_set hi).2 (.inr e))
      have tw := I.two pl hpD (q := q) (by simp)
      obtain ⟨o', ho'⟩ := pl.ok p (I.memD pl hpD)
      refine (I.pend p hpD hl').turn ?_ ?_ (hr p hpD hl') ?_ hE.more
      · intro s hs
        rw [slot_setD hN ho.dlim (pl.looks_lim (I.memD pl hpD) hs), if_neg]
        exact fun e => hl' (hanc _ (tw.war s e hs).2)
      · intro d hd
        rw [slot_setD hN ho.dlim (ho'.dlim d hd), if_neg (tw.dd d hd)]
      · intro b hb hd hbn
        obtain ⟨e1, e2⟩ := hE.pend b hbn hd
        exact ⟨e1, e2, hb⟩
end
end Go.Vai
