/- A region in every order: one turn of it, and all of them. -/
import Derived.Test.YtjkpgkmhkgngpaaGreatDoorVaiWd
namespace Go.Vai
open Go.RowKit

section
variable {P : Program} {G N : Nat} {w0 : Base} {ops : Array Oper} {C : List RO} {self : Self} {k : KR} {ρ0 : Ren} {h0 : Hp} {nx0 : Nat}
  {L : Array Bool} {a : Act} {w : World} {Q : Exit → Act → World → Prop}

theorem LetsIn.value {o : Oper} {K : Act → World → Prop} {v : Value} {w' : World} (h : (execOp a.eval o).run P w = .ok (.value v) w') (hK : K (a.put o.dst v) w') : o.wp P a w K Q := by
  unfold Oper.wp; rw [h]; exact hK

theorem Inv.step (pl : Plan P G N ops C) (hself : SelfOK P G w0 self) (hG : G ≤ nx0) {i : Nat} (I : Inv P G N w0 ops C self k ρ0 h0 nx0 L a w) (hi : i ∈ Region.ready .any ops L) :
    wpOp P ops Q i (Inv P G N w0 ops C self k ρ0 h0 nx0 (L.setIfInBounds i true)) a w := by
  obtain ⟨D, cs, t, tL, h, nx, ρ, B, I, hd⟩ := I
  obtain ⟨hun, o, ho, hdeps⟩ := mem_ready.1 hi
  have hlt : i < ops.size := (Array.getElem?_eq_some_iff.1 ho).1
  have hiL : i < L.size := by rw [I.size]; exact hlt
  have hnl : ¬ Ls L i := by
    unfold Ls
    simp [hiL] at hun ⊢
    exact hun
  obtain ⟨q, hqC, rfl⟩ := pl.all i hlt
  obtain ⟨o', hok⟩ := pl.ok q hqC
  have : o' = o := by have := hok.at_; rw [ho] at this; cases this; rfl
  subst this
  have hN := I.A.slots.lim
  have hanc : ∀ j, q.anc j = true → Ls L j := by
    intro j hj
    obtain ⟨e, he, hb, hor⟩ := pl.anc q hqC _ ho j hj
    rcases hor with rfl | ⟨p, hp, e1, e2⟩
    · exact hdeps e he hb
    · exact I.down p hp (by rw [e1]; exact hdeps e he hb) j e2
  have uniq : ∀ p, p ∈ C → p.i = q.i → p = q := fun p hp e => by
    rcases pair_or pl.two p q hp hqC with h | h | h
    · exact h
    · exact absurd e h.ne
    · exact absurd e.symm h.ne
  have same : ∀ s, q.looks s → slot t s = slot tL s := by
    intro s hs
    refine I.same s (pl.looks_lim hqC hs) fun p hp hl e => ?_
    rcases pair_or pl.two p q (I.memD pl hp) hqC with h | h | h
    · subst h; exact hok.self s e hs
    · exact hl (hanc _ (h.raw s e hs))
    · have := (h.war s e hs).1
      rw [(I.pend p hp hl).1.1] at this
      exact absurd this (by simp)
  have slots : ∀ s, q.looks s → SlotAt ρ tL a.tmps s := fun s hs => I.A.slots.at_ s (pl.looks_lim hqC hs)
  obtain ⟨ew, er⟩ := sees_congr (q := q) same
  have hw : knownG q.g t = true → Region.wanted o' (yielded ops a.tmps) = wantedA q.g t := by
    intro hkn
    rw [ew]
    rw [knownG_congr (t' := tL) fun s b e => same s (.inr ⟨b, e⟩)] at hkn
    exact wanted_spec hok.g (fun s b e => slots s (.inr ⟨b, e⟩)) hkn
  have R : TRel ρ N (restrict q.rs t) (actR N q.rs a).tmps := by
    rw [er]
    exact TRel_restrict hN hok.lim fun s hs => slots s (.inl hs)
  have hev : execOp (actR N q.rs a).eval o' = execOp a.eval o' := execOp_actR hok.sel fun s hs => ⟨hok.reads s hs, hok.lim s (hok.reads s hs)⟩
  have und : toV ρ undefA = undef := by simp [undefA, toV, toVs, undef]
  unfold wpOp
  rw [ho]
  by_cases hD : q ∈ D
  · -- the world catches up
    have pe := I.pend q hD hnl
    simp only [hw pe.1.2]
    cases hwt : wantedA q.g t with
    | false =>
      simp only [Bool.false_eq_true, if_false]
      have := I.take pl hD hanc (v := undefA) (pe.2.1 hwt) I.H I.E (Ren.Le.refl ρ) ⟨⟩ (fun _ _ _ _ _ h => h)
      rw [und] at this
      rw [hok.dst]
      exact ⟨D, cs, t, _, h, nx, ρ, B, this, hd⟩
    | true =>
      simp only [if_true]
      obtain ⟨v, hv, hk⟩ := pe.2.2 hwt
      refine .inl ?_
      cases hoc : q.oc with
      | pure f =>
        rw [hoc] at hk
        have op := hok.oc
        rw [hoc] at op
        obtain ⟨r1, r2⟩ := op I.H R hk
        rw [hev] at r1
        refine LetsIn.value r1 ?_
        rw [hok.dst]
        exact ⟨D, cs, t, _, h, nx, ρ, B, I.take pl hD hanc hv I.H I.E (Ren.Le.refl ρ) r2 (fun _ _ _ _ _ h => h), hd⟩
      | read f =>
        rw [hoc] at hk
        have op := hok.oc
        rw [hoc] at op
        obtain ⟨r1, r2⟩ := op I.H R hk
        rw [hev] at r1
        refine LetsIn.value r1 ?_
        rw [hok.dst]
        exact ⟨D, cs, t, _, h, nx, ρ, B, I.take pl hD hanc hv I.H I.E (Ren.Le.refl ρ) r2 (fun _ _ _ _ _ h => h), hd⟩
      | new f =>
        rw [hoc] at hk
        have op := hok.oc
        rw [hoc] at op
        obtain ⟨ob, f', b, k1, rfl, k3, k4, k5, k6, k7⟩ := hk
        obtain ⟨s, ⟨m, x, e, q1, q2⟩, r2⟩ := op I.H R k1
        rw [hev, q2] at r2
        obtain ⟨n1, n2⟩ := nv_toV ρ f' b w.heap.size e
        have H' := (I.H.drawn m).commit k6 k3 k4 e (Nat.le_trans hG k5) q1
        · refine LetsIn.value r2 ?_
          rw [hok.dst, ← n1]
          have hle := ρ.put_le (c := w.heap.size) (e := e) k4
          refine ⟨D, cs, t, _, h, nx, _, B, I.take pl hD hanc hv H' ⟨I.E.le.trans hle, I.E.more, fun c hc hnd => ?_⟩ hle n2 ?_, hd⟩
          · obtain ⟨x1, x2⟩ := I.E.pend c hc hnd
            refine ⟨?_, x2⟩
            rintro (rfl | h')
            · omega
            · exact x1 h'
          · intro p hp ne c hc hnd
            rintro (rfl | h')
            · exact ne (I.inj _ _ _ hc k7)
            · exact hnd h'
      | _ => rw [hoc] at hk; exact hk.elim
  · -- it is the next one here
    have hqcs : q ∈ cs := by
      have := hqC
      rw [I.split] at this
      simpa [hD] using this
    cases cs with
    | nil => simp at hqcs
    | cons q' cs' =>
      have heq : q = q' := by
        rcases List.mem_cons.1 hqcs with e | hm
        · exact e
        · have tw := pl.two
          rw [I.split, List.pairwise_append, List.pairwise_cons] at tw
          have := (tw.2.1.1 q hm).chain (hd q' cs' rfl)
          exact absurd (hanc _ this) (I.fresh pl (by simp))
      subst heq
      have heff := hd q cs' rfl
      have hrun : stepC D q self (runC self k (q :: D) cs') t h nx = .ok := I.run
      have sees : ∀ p, p ∈ D → ¬ Ls L p.i → ∀ v, wantedA p.g (setD q.dst v t) = wantedA p.g t ∧ restrict p.rs (setD q.dst v t) = restrict p.rs t := fun p hp hl v =>
        sees_congr fun s hs => by
          rw [slot_setD hN hok.dlim (pl.looks_lim (I.memD pl hp) hs), if_neg]
          exact fun e => hl (hanc _ ((I.two pl hp (q := q) (by simp)).war s e hs).2)
      unfold stepC at hrun
      split at hrun
      · simp at hrun
      rename_i hkn
      simp only [hw hkn]
      cases hwt : wantedA q.g t with
      | false =>
        rw [hwt] at hrun
        simp only [Bool.false_eq_true, if_false]
        have := I.both pl hanc (v := undefA) I.H (Ext.refl _ _ _) ⟨⟩ ?_ hrun
        · rw [und] at this
          rw [hok.dst]
          exact this.advance pl
        · intro p hp hl hw' f hf
          obtain ⟨e1, e2⟩ := sees p hp hl undefA
          obtain ⟨o2, ho2⟩ := pl.ok p (I.memD pl hp)
          obtain ⟨u, hu, hdu⟩ := (I.pend p hp hl).reads (e1 ▸ hw') f hf
          refine ⟨u, by rw [e2]; exact hu, fun d e => ?_⟩
          rw [slot_setD hN hok.dlim (ho2.dlim d e), if_neg ((I.two pl hp (q := q) (by simp)).dd d e)]
          exact hdu d e
      | true =>
        rw [hwt, heff] at hrun
        simp only [if_true] at hrun ⊢
        refine .inl (execR_sound hok.oc hself I.H R hev hrun ?_)
        intro ρ' v h' n' w' hE hH hvk hk
        split at hk
        · rename_i hrc
          rw [hok.dst]
          refine (I.both pl hanc hH hE hvk ?_ hk).advance pl
          intro p hp hl hw' f hf
          refine recheck_spec _ hrc p (List.mem_filter.2 ⟨hp, ?_⟩) hw' f hf
          have : q.anc p.i = false := by
            cases e : q.anc p.i with
            | false => rfl
            | true => exact absurd (hanc _ e) hl
          simp [isRead, hf, this]
        · simp at hk

theorem Inv.last (pl : Plan P G N ops C) (I : Inv P G N w0 ops C self k ρ0 h0 nx0 L a w) (hi : Region.ready .any ops L = [])
    (hK : ∀ ρ' t' h' n', Ext ρ0 h0 nx0 ρ' h' n' → HRel G w0 ρ' h' n' w → ARel ρ' N t' a → k t' h' n' = .ok → Q .normal a w) : Q .normal a w := by
  obtain ⟨D, cs, t, tL, h, nx, ρ, B, I, hd⟩ := I
  have all : ∀ i, i < ops.size → Ls L i := by
    intro i
    induction i using Nat.strongRecOn with
    | _ i ih =>
      intro hlt
      obtain ⟨q, hqC, rfl⟩ := pl.all i hlt
      obtain ⟨o, ho⟩ := pl.ok q hqC
      by_cases hl : Ls L q.i
      · exact hl
      · exfalso
        have : q.i ∈ Region.ready .any ops L := by
          refine mem_ready.2 ⟨?_, o, ho.at_, fun e he hb => ?_⟩
          · have : q.i < L.size := by rw [I.size]; exact hlt
            unfold Ls at hl
            simp [this] at hl ⊢
            exact hl
          · have := ho.low e he hb
            exact ih e.on this (Nat.lt_trans this hlt)
        rw [hi] at this
        simp at this
  have allC : ∀ q, q ∈ C → Ls L q.i := fun q hq => by
    obtain ⟨o, ho⟩ := pl.ok q hq
    exact all _ (Array.getElem?_eq_some_iff.1 ho.at_).1
  cases cs with
  | cons q cs => exact absurd (allC q (I.memC pl (by simp))) (I.fresh pl (by simp))
  | nil =>
    have slots : ∀ s, s < N → slot t s = slot tL s := fun s hs => I.same s hs fun q hq hl => absurd (allC q (I.memD pl hq)) hl
    refine hK ρ t h nx I.E I.H ⟨⟨I.A.slots.size, I.A.slots.lim, fun i hi => ?_⟩, ?_⟩ I.run
    · rw [slots i hi]; exact I.A.slots.at_ i hi
    · rw [I.defs]; exact I.A.defs

theorem wpAny_of_inv (pl : Plan P G N ops C) (hself : SelfOK P G w0 self) (hG : G ≤ nx0)
    (hK : ∀ ρ' t' h' n' a' w', Ext ρ0 h0 nx0 ρ' h' n' → HRel G w0 ρ' h' n' w' → ARel ρ' N t' a' → k t' h' n' = .ok → Q .normal a' w') :
    ∀ (fuel : Nat) (L : Array Bool) (a : Act) (w : World), L.toList.count false ≤ fuel → Inv P G N w0 ops C self k ρ0 h0 nx0 L a w → wpAny P .any ops Q fuel L a w
  | 0, L, a, w, hf, I => by
    have hr : Region.ready .any ops L = [] := by
      refine List.eq_nil_iff_forall_not_mem.2 fun i hi => ?_
      obtain ⟨hun, o, ho, _⟩ := mem_ready.1 hi
      obtain ⟨D, cs, t, tL, h, nx, ρ, B, I, _⟩ := I
      have hlt : i < L.size := by rw [I.size]; exact (Array.getElem?_eq_some_iff.1 ho).1
      have hm : false ∈ L.toList := by
        simp [hlt] at hun
        rw [← hun]
        simp
      have := List.count_pos_iff.2 hm
      omega
    exact ⟨hr, I.last pl hr fun ρ' t' h' n' e1 e2 e3 e4 => hK ρ' t' h' n' a w e1 e2 e3 e4⟩
  | fuel + 1, L, a, w, hf, I => by
    refine ⟨fun hr => I.last pl hr fun ρ' t' h' n' e1 e2 e3 e4 => hK ρ' t' h' n' a w e1 e2 e3 e4, fun i hi => ?_⟩
    have := I.step (Q := Q) pl hself hG hi
    refine wpOp_mono (fun a w J => wpAny_of_inv pl hself hG hK fuel _ a w ?_ J) this
    obtain ⟨hun, o, ho, _⟩ := mem_ready.1 hi
    obtain ⟨D, cs, t, tL, h, nx, ρ, B, I, _⟩ := I
    have hlt : i < L.size := by rw [I.size]; exact (Array.getElem?_eq_some_iff.1 ho).1
    simp [hlt] at hun
    have hlt' : i < L.toList.length := by simpa using hlt
    have e : (L.setIfInBounds i true).toList = L.toList.set i true := by simp
    have hg : L.toList[i] = false := by simpa using hun
    rw [e, List.count_set hlt', hg]
    show List.count false L.toList - 1 + 0 ≤ fuel
    omega

theorem region_any (pl : Plan P G N ops C) (hself : SelfOK P G w0 self) (hm : P.follows .mixedOrders = true) {id : Nat} {ρ : Ren} {h : Hp} {nx : Nat} {t : T}
    (H : HRel G w0 ρ h nx w) (A : ARel ρ N t a) (hrun : runC self k [] C t h nx = .ok)
    (hK : ∀ ρ' t' h' n' a' w', Ext ρ h nx ρ' h' n' → HRel G w0 ρ' h' n' w' → ARel ρ' N t' a' → k t' h' n' = .ok → Q .normal a' w') :
    (Code.region id ops true).wp P Q a w := by
  refine wp_region_any hm (wpAny_of_inv pl hself H.gl hK _ _ _ _ (by simp) ?_)
  refine Inv0.advance pl (D := []) (tL := t) (B := fun _ => none) C ⟨by simp, rfl, ?_, ?_, H.drawn _, Ext.refl _ _ _, A, fun _ _ _ => rfl, rfl, fun q hq => by simp at hq,
    fun _ _ _ e => by simp at e, fun _ _ e => by simp at e, hrun⟩
  · intro i hi
    unfold Ls at hi
    simp [Array.getElem?_replicate] at hi
    split at hi <;> simp at hi
  · intro q _ hi
    unfold Ls at hi
    simp [Array.getElem?_replicate] at hi
    split at hi <;> simp at hi
end
end Go.Vai
