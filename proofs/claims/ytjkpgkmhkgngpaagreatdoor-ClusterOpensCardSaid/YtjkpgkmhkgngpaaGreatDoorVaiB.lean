/- The abstract heap, what it says of the model's world, and how it keeps saying so. -/
import Derived.Test.YtjkpgkmhkgngpaaGreatDoorVaiA
import Derived.Below
import Derived.Laws.Cells
import Derived.Laws.Rows
namespace Go.Vai
open Go.RowKit

def oneA : AV → Bool
  | .agg _ | .tuple _ | .cond _ _ _ => false
  | _ => true

inductive Fz where
  | none
  | mark
  | range (lo hi : Nat)

inductive AObj where
  | cells (c : Trie AV) (n : Nat) (ty : TypeId) (fz : Fz) (opn : Nat)
  | iter (len s pos : Nat)
  | liter (len : Nat) (c : Int) (l : List LV) (pos : Nat)
  | arg (l : List AV)
  | map (es : List (AV × AV × Nat)) (clock : Nat)

abbrev Hp := Trie AObj

def FzRel : Fz → Nat × Nat → Nat → Prop
  | .none, fr, _ => fr.1 = fr.2
  | .mark, fr, n => fr.1 = fr.2 ∨ fr = (n, n + 1)
  | .range lo hi, fr, _ => fr = (lo, hi) ∧ lo < hi

/-- is a cell frozen? -/
def Fz.at : Fz → Nat → Bool
  | .range lo hi, i => Nat.ble lo i && Nat.blt i hi
  | _, _ => false

def entriesRel (ρ : Ren) : List (AV × AV × Nat) → List MapEntry → Prop
  | [], [] => True
  | (k, v, b) :: l, e :: l' => okv ρ.d k ∧ okv ρ.d v ∧ e = { key := toV ρ k, val := toV ρ v, born := b } ∧ entriesRel ρ l l'
  | _, _ => False

/-- 'ex': so many elements more than is known does the block have room for; 'opn': an element's cells, of an open block (of another one: 0) -/
def ORel (ρ : Ren) (ex : Nat) : AObj → Obj → Prop
  | .cells c n ty fz opn, x => ∃ cs fr, x = .cells cs ty fr ∧ cs.size = n + ex * opn ∧ n ≤ keyMax ∧ FzRel fz fr cs.size ∧
      ∀ i, i < n → ∀ v, c.get i = some v → okv ρ.d v ∧ cs[i]? = some (toV ρ v)
  | .iter len s pos, x => x = .stringIter (strOf len s) pos ∧ s < 2 ^ (8 * len)
  | .liter len c l pos, x => x = .stringIter (strOf len (linV ρ.s c l).toNat) pos
  | .arg l, x => ∃ cs ty fr, x = .cells cs ty fr ∧ ∀ i v, l[i]? = some v → okv ρ.d v ∧ oneA v = true ∧ cs[ex + i]? = some (toV ρ v)
  | .map es clock, x => ∃ l : Array MapEntry, x = .map l clock ∧ entriesRel ρ es l.toList

theorem entriesRel_le {ρ ρ' : Ren} (h : ρ.Le ρ') : ∀ es l, entriesRel ρ es l → entriesRel ρ' es l
  | [], [], _ => trivial
  | (k, v, b) :: es, e :: l, ⟨hk, hv, he, r⟩ => ⟨okv_mono h.d k hk, okv_mono h.d v hv, by rw [toV_le h k hk, toV_le h v hv]; exact he, entriesRel_le h es l r⟩

theorem ORel.le {ρ ρ' : Ren} (h : ρ.Le ρ') {ex : Nat} {o : AObj} {x : Obj} (ho : ORel ρ ex o x) : ORel ρ' ex o x := by
  cases o with
  | cells c n ty fz opn =>
    obtain ⟨cs, fr, hx, h1, h1', h3, h4⟩ := ho
    refine ⟨cs, fr, hx, h1, h1', h3, fun i hi v a => ?_⟩
    obtain ⟨b, c⟩ := h4 i hi v a
    exact ⟨okv_mono h.d v b, by rw [toV_le h v b]; exact c⟩
  | iter len s pos => exact ho
  | liter len c l pos => show x = _; rw [h.s]; exact ho
  | arg l =>
    obtain ⟨cs, ty, fr, hx, hl⟩ := ho
    refine ⟨cs, ty, fr, hx, fun i v hi => ?_⟩
    obtain ⟨a, b, c⟩ := hl i v hi
    exact ⟨okv_mono h.d v a, b, by rw [toV_le h v a]; exact c⟩
  | map es clock =>
    obtain ⟨l, hx, hl⟩ := ho
    exact ⟨l, hx, entriesRel_le h _ _ hl⟩

/-- One block of the world is another thing, and nothing else has turned (but the count of draws). -/
structure UpdAt (w w' : World) (c : Nat) (x : Obj) : Prop where
  os : w'.os = w.os
  tape : w'.tape = w.tape
  output : w'.output = w.output
  size : w'.heap.size = w.heap.size
  at_ : w'.heap[c]? = some x
  other : ∀ k, k ≠ c → w'.heap[k]? = w.heap[k]?

/-- where a run began, and the blocks that it leaves as they were -/
structure Base where
  w : World
  K : Nat → Prop
  lt : ∀ b, K b → b < w.heap.size
structure Keeps (w0 : Base) (w : World) : Prop where
  os : w.os = w0.w.os
  tape : w.tape = w0.w.tape
  output : w.output = w0.w.output
  size : w0.w.heap.size ≤ w.heap.size
  block : ∀ k, w0.K k → w.heap[k]? = w0.w.heap[k]?
theorem Keeps.refl (w0 : Base) : Keeps w0 w0.w := ⟨rfl, rfl, rfl, Nat.le_refl _, fun _ _ => rfl⟩
theorem Keeps.upd {w0 : Base} {w w' : World} {c : Nat} {x : Obj} (k : Keeps w0 w) (u : UpdAt w w' c x) (hc : ¬ w0.K c) : Keeps w0 w' :=
  ⟨u.os.trans k.os, u.tape.trans k.tape, u.output.trans k.output, Nat.le_trans k.size (Nat.le_of_eq u.size.symm), fun j hj => (u.other j (fun e => hc (e ▸ hj))).trans (k.block j hj)⟩
theorem Keeps.drew {w0 : Base} {w : World} (k : Keeps w0 w) : Keeps w0 w.drew := ⟨k.os, k.tape, k.output, k.size, k.block⟩
theorem Keeps.alloc {w0 : Base} {w : World} (k : Keeps w0 w) (x : Obj) : Keeps w0 (w.alloc x) :=
  ⟨k.os, k.tape, k.output, by rw [World.size_alloc]; exact Nat.le_succ_of_le k.size, fun j hj => (heap_alloc_old w x j (Nat.lt_of_lt_of_le (w0.lt j hj) k.size)).trans (k.block j hj)⟩
theorem Keeps.below {w0 : Base} {w w' : World} (k : Keeps w0 w) (b : Below w.heap.size w w') : Keeps w0 w' :=
  ⟨b.os.trans k.os, b.tape.trans k.tape, b.output.trans k.output, Nat.le_trans k.size b.size, fun j hj => (b.block j (Nat.lt_of_lt_of_le (w0.lt j hj) k.size)).trans (k.block j hj)⟩
/-- of a world alone: all its blocks stay -/
def Base.all (w : World) : Base := ⟨w, fun b => b < w.heap.size, fun _ h => h⟩
theorem Keeps.all {w w' : World} (k : Keeps (Base.all w) w') : Below w.heap.size w w' := ⟨k.os, k.tape, k.output, k.size, k.block⟩

structure HRel (G : Nat) (w0 : Base) (ρ : Ren) (h : Hp) (nx : Nat) (w : World) : Prop where
  below : Keeps w0 w
  lt : ∀ b, ρ.d b → b < nx
  lim : nx ≤ keyMax
  gl : G ≤ nx
  obj : ∀ b o, b < nx → h.get b = some o → ρ.d b → ∃ x, w.heap[ρ.m b]? = some x ∧ ORel ρ (ρ.e b) o x
  own : ∀ b o, b < nx → h.get b = some o → ρ.d b → G ≤ b → ¬ w0.K (ρ.m b)
  inj : ∀ b b' o o', b < nx → b' < nx → h.get b = some o → h.get b' = some o' → ρ.d b → ρ.d b' → ρ.m b = ρ.m b' → b = b'
  /-- the globals; the last four names below 'G' are for blocks of arguments, that nothing is written into -/
  glob : ∀ g, g + 4 < G → ρ.d g ∧ ρ.m g = g
  arg : ∀ g, g < G → G ≤ g + 4 → ρ.d g → w0.K (ρ.m g) ∧ (∀ g', g' + 4 < G → ρ.m g ≠ g') ∧ ∀ g', g' < G → G ≤ g' + 4 → ρ.d g' → ρ.m g = ρ.m g' → g = g'
  in_ : ∀ b, ρ.d b → ρ.m b < w.heap.size
  top : ∀ b, nx ≤ b → b < keyMax → h.get b = none

/-- What a piece of a run keeps of what is not in the domain yet. -/
structure Ext (ρ : Ren) (h : Hp) (nx : Nat) (ρ' : Ren) (h' : Hp) (nx' : Nat) : Prop where
  le : ρ.Le ρ'
  more : nx ≤ nx'
  pend : ∀ b, b < nx → ¬ ρ.d b → ¬ ρ'.d b ∧ h'.get b = h.get b

theorem Ext.refl (ρ : Ren) (h : Hp) (nx : Nat) : Ext ρ h nx ρ h nx := ⟨Ren.Le.refl ρ, Nat.le_refl _, fun _ _ h => ⟨h, rfl⟩⟩
theorem Ext.trans {a b c : Ren} {h1 h2 h3 : Hp} {n1 n2 n3 : Nat} (x : Ext a h1 n1 b h2 n2) (y : Ext b h2 n2 c h3 n3) : Ext a h1 n1 c h3 n3 :=
  ⟨x.le.trans y.le, Nat.le_trans x.more y.more, fun k hk hd =>
    let ⟨p, q⟩ := x.pend k hk hd
    let ⟨r, s⟩ := y.pend k (Nat.lt_of_lt_of_le hk x.more) p
    ⟨r, s.trans q⟩⟩

section
variable {G : Nat} {w0 : Base} {ρ : Ren} {h : Hp} {nx : Nat} {w : World}

theorem HRel.key (H : HRel G w0 ρ h nx w) {b : Nat} (hb : b < nx) : b < keyMax := Nat.lt_of_lt_of_le hb H.lim

theorem HRel.drew (H : HRel G w0 ρ h nx w) : HRel G w0 ρ h nx w.drew :=
  ⟨H.below.drew, H.lt, H.lim, H.gl, H.obj, H.own, H.inj, H.glob, H.arg, H.in_, H.top⟩

theorem HRel.upd (H : HRel G w0 ρ h nx w) {b : Nat} {o o' : AObj} {x' : Obj} {w' : World} (hg : h.get b = some o) (hd : ρ.d b) (hG : G ≤ b)
    (u : UpdAt w w' (ρ.m b) x') (ho : ORel ρ (ρ.e b) o' x') : HRel G w0 ρ (h.set b o') nx w' ∧ Ext ρ h nx ρ (h.set b o') nx := by
  have hb := H.lt b hd
  have live : ∀ k, k < nx → k ≠ b → (h.set b o').get k = h.get k := fun k hk hne => get_set_other h o' (H.key hb) (H.key hk) (Ne.symm hne)
  refine ⟨⟨H.below.upd u (H.own b o hb hg hd hG), H.lt, H.lim, H.gl, ?_, ?_, ?_, H.glob, H.arg, fun k hk => by rw [u.size]; exact H.in_ k hk,
      fun k hk hm => by rw [get_set_other h o' (H.key hb) hm (by omega)]; exact H.top k hk hm⟩,
    ⟨Ren.Le.refl ρ, Nat.le_refl _, fun k hk hnd => ⟨hnd, live k hk (fun e => hnd (e ▸ hd))⟩⟩⟩
  · intro k ok hk hgk hdk
    by_cases e : k = b
    · subst e
      rw [get_set_same] at hgk
      cases hgk
      exact ⟨x', u.at_, ho⟩
    · rw [live k hk e] at hgk
      obtain ⟨x, hx, hox⟩ := H.obj k ok hk hgk hdk
      refine ⟨x, ?_, hox⟩
      rw [u.other]
      · exact hx
      · exact fun e' => e (H.inj k b ok o hk hb hgk hg hdk hd e')
  · intro k ok hk hgk hdk hGk
    by_cases e : k = b
    · subst e; exact H.own k o hb hg hd hG
    · rw [live k hk e] at hgk; exact H.own k ok hk hgk hdk hGk
  · intro k k' ok ok' hk hk' hgk hgk' hdk hdk' e
    have f : ∀ j oj, j < nx → (h.set b o').get j = some oj → ∃ oj', h.get j = some oj' := by
      intro j oj hj hgj
      by_cases e : j = b
      · exact ⟨o, e ▸ hg⟩
      · exact ⟨oj, (live j hj e) ▸ hgj⟩
    obtain ⟨p, hp⟩ := f k ok hk hgk
    obtain ⟨p', hp'⟩ := f k' ok' hk' hgk'
    exact H.inj k k' p p' hk hk' hp hp' hdk hdk' e

/-- a new abstract block that the world does not have yet -/
theorem HRel.pend (H : HRel G w0 ρ h nx w) (o : AObj) (hn : nx < keyMax) :
    HRel G w0 ρ (h.set nx o) (nx + 1) w ∧ Ext ρ h nx ρ (h.set nx o) (nx + 1) := by
  have live : ∀ k, k < nx → (h.set nx o).get k = h.get k := fun k hk => get_set_other h o hn (H.key hk) (by omega)
  have nd : ¬ ρ.d nx := fun hd => Nat.lt_irrefl _ (H.lt nx hd)
  refine ⟨⟨H.below, fun b hb => Nat.lt_succ_of_lt (H.lt b hb), hn, Nat.le_succ_of_le H.gl, ?_, ?_, ?_, H.glob, H.arg, H.in_,
      fun k hk hm => by rw [get_set_other h o hn hm (by omega)]; exact H.top k (by omega) hm⟩,
    ⟨Ren.Le.refl ρ, Nat.le_succ _, fun k hk hnd => ⟨hnd, live k hk⟩⟩⟩
  · intro k ok _ hgk hdk
    rw [live k (H.lt k hdk)] at hgk
    exact H.obj k ok (H.lt k hdk) hgk hdk
  · intro k ok _ hgk hdk
    rw [live k (H.lt k hdk)] at hgk
    exact H.own k ok (H.lt k hdk) hgk hdk
  · intro k k' ok ok' _ _ hgk hgk' hdk hdk'
    rw [live k (H.lt k hdk)] at hgk
    rw [live k' (H.lt k' hdk')] at hgk'
    exact H.inj k k' ok ok' (H.lt k hdk) (H.lt k' hdk') hgk hgk' hdk hdk'

/-- the renaming with one block more -/
def Ren.put (ρ : Ren) (b c e : Nat) : Ren where
  m k := if k = b then c else ρ.m k
  d k := k = b ∨ ρ.d k
  e k := if k = b then e else ρ.e k
  s := ρ.s

theorem Ren.put_le (ρ : Ren) {b c e : Nat} (hb : ¬ ρ.d b) : ρ.Le (ρ.put b c e) :=
  ⟨fun _ h => .inr h, fun k hk => if_neg (fun (x : k = b) => hb (x ▸ hk)), fun k hk => if_neg (fun (x : k = b) => hb (x ▸ hk)), rfl⟩

/-- the world gets the block -/
theorem HRel.commit (H : HRel G w0 ρ h nx w) {b : Nat} {o : AObj} {x : Obj} (hb : b < nx) (hg : h.get b = some o) (hd : ¬ ρ.d b) (e : Nat)
    (hG : G ≤ b) (ho : ORel ρ e o x) : HRel G w0 (ρ.put b w.heap.size e) h nx (w.alloc x) := by
  have hle := ρ.put_le (c := w.heap.size) (e := e) hd
  have hw0 : ¬ w0.K w.heap.size := fun hk => Nat.lt_irrefl _ (Nat.lt_of_lt_of_le (w0.lt _ hk) H.below.size)
  have ne : ∀ k, ρ.d k → k ≠ b := fun k hk e => hd (e ▸ hk)
  have sz : ∀ k ok, k < nx → h.get k = some ok → ρ.d k → ρ.m k < w.heap.size := by
    intro k ok hk hgk hdk
    obtain ⟨y, hy, _⟩ := H.obj k ok hk hgk hdk
    exact (Array.getElem?_eq_some_iff.1 hy).1
  refine ⟨H.below.alloc x, ?_, H.lim, H.gl, ?_, ?_, ?_, ?_, ?_, ?_, H.top⟩
  · rintro k (rfl | hk)
    · exact hb
    · exact H.lt k hk
  · rintro k ok hk hgk (rfl | hdk)
    · rw [hg] at hgk; cases hgk
      exact ⟨x, by simp only [Ren.put, if_true]; exact heap_alloc_new w x, by simpa [Ren.put] using ho.le hle⟩
    · obtain ⟨y, hy, hoy⟩ := H.obj k ok hk hgk hdk
      refine ⟨y, ?_, by simpa only [Ren.put, if_neg (ne k hdk)] using hoy.le hle⟩
      simp only [Ren.put, if_neg (ne k hdk)]
      rw [heap_alloc_old w x _ (sz k ok hk hgk hdk)]
      exact hy
  · rintro k ok hk hgk (rfl | hdk) hGk
    · simp only [Ren.put, if_true]; exact hw0
    · simp only [Ren.put, if_neg (ne k hdk)]; exact H.own k ok hk hgk hdk hGk
  · rintro k k' ok ok' hk hk' hgk hgk' (rfl | hdk) (rfl | hdk') e
    · rfl
    · simp only [Ren.put, if_true, if_neg (ne k' hdk')] at e
      have := sz k' ok' hk' hgk' hdk'
      omega
    · simp only [Ren.put, if_true, if_neg (ne k hdk)] at e
      have := sz k ok hk hgk hdk
      omega
    · simp only [Ren.put, if_neg (ne k hdk), if_neg (ne k' hdk')] at e
      exact H.inj k k' ok ok' hk hk' hgk hgk' hdk hdk' e
  · intro g hg'
    obtain ⟨p, q⟩ := H.glob g hg'
    exact ⟨.inr p, by simp only [Ren.put, if_neg (ne g p)]; exact q⟩
  · rintro g hg1 hg2 (rfl | hd')
    · omega
    · simp only [Ren.put, if_neg (ne g hd')]
      obtain ⟨a1, a2, a3⟩ := H.arg g hg1 hg2 hd'
      refine ⟨a1, a2, ?_⟩
      rintro g' h1 h2 (rfl | hd2)
      · omega
      · rw [if_neg (ne g' hd2)]; exact a3 g' h1 h2 hd2
  · rintro k (rfl | hk)
    · simp [Ren.put]
    · simp only [Ren.put, if_neg (ne k hk), World.size_alloc]; exact Nat.lt_succ_of_lt (H.in_ k hk)

/-- both at once -/
theorem HRel.new (H : HRel G w0 ρ h nx w) {o : AObj} {x : Obj} (hn : nx < keyMax) (e : Nat) (ho : ORel ρ e o x) :
    HRel G w0 (ρ.put nx w.heap.size e) (h.set nx o) (nx + 1) (w.alloc x) ∧ Ext ρ h nx (ρ.put nx w.heap.size e) (h.set nx o) (nx + 1) := by
  have nd : ¬ ρ.d nx := fun hd => Nat.lt_irrefl _ (H.lt nx hd)
  obtain ⟨H1, E1⟩ := H.pend o hn
  refine ⟨H1.commit (Nat.lt_succ_self _) (get_set_same _ _ _) nd e H.gl ho, ⟨ρ.put_le nd, E1.more, fun k hk hnd => ⟨?_, (E1.pend k hk hnd).2⟩⟩⟩
  rintro (rfl | h')
  · exact Nat.lt_irrefl _ hk
  · exact hnd h'

/-- a block goes by a new name: the old one is no more -/
theorem HRel.move (H : HRel G w0 ρ h nx w) {b : Nat} {o o' : AObj} {x' : Obj} {w' : World} (hg : h.get b = some o) (hd : ρ.d b) (hG : G ≤ b) (hn : nx < keyMax) (e : Nat)
    (u : UpdAt w w' (ρ.m b) x') (ho : ORel ρ e o' x') :
    HRel G w0 (ρ.put nx (ρ.m b) e) ((h.del b).set nx o') (nx + 1) w' ∧ Ext ρ h nx (ρ.put nx (ρ.m b) e) ((h.del b).set nx o') (nx + 1) := by
  have nd : ¬ ρ.d nx := fun hd => Nat.lt_irrefl _ (H.lt nx hd)
  have hle := ρ.put_le (c := ρ.m b) (e := e) nd
  have hb := H.lt b hd
  have ne : ∀ k, ρ.d k → k ≠ nx := fun k hk e => nd (e ▸ hk)
  have live : ∀ k, k < nx → k ≠ b → ((h.del b).set nx o').get k = h.get k := fun k hk hne => by
    rw [get_set_other _ o' hn (H.key hk) (by omega), get_del_other h (H.key hb) (H.key hk) (Ne.symm hne)]
  have dead : ((h.del b).set nx o').get b = none := by
    rw [get_set_other _ o' hn (H.key hb) (by omega), get_del_same]
  have old : ∀ k ok, ρ.d k → ((h.del b).set nx o').get k = some ok → k ≠ b ∧ h.get k = some ok := by
    intro k ok hdk hgk
    by_cases e : k = b
    · rw [e, dead] at hgk; cases hgk
    · exact ⟨e, (live k (H.lt k hdk) e) ▸ hgk⟩
  refine ⟨⟨H.below.upd u (H.own b o hb hg hd hG), ?_, hn, Nat.le_succ_of_le H.gl, ?_, ?_, ?_, ?_, ?_, ?_,
      fun k hk hm => by rw [get_set_other _ o' hn hm (by omega), get_del_other h (H.key hb) hm (by omega)]; exact H.top k (by omega) hm⟩, ⟨hle, Nat.le_succ _, fun k hk hnd => ⟨?_, ?_⟩⟩⟩
  · rintro k (rfl | hk)
    · exact Nat.lt_succ_self _
    · exact Nat.lt_succ_of_lt (H.lt k hk)
  · rintro k ok _ hgk (rfl | hdk)
    · rw [get_set_same] at hgk; cases hgk
      exact ⟨x', by simp only [Ren.put, if_true]; exact u.at_, by simpa [Ren.put] using ho.le hle⟩
    · obtain ⟨e, hgk⟩ := old k ok hdk hgk
      obtain ⟨y, hy, hoy⟩ := H.obj k ok (H.lt k hdk) hgk hdk
      refine ⟨y, ?_, by simpa only [Ren.put, if_neg (ne k hdk)] using hoy.le hle⟩
      simp only [Ren.put, if_neg (ne k hdk)]
      rw [u.other _ (fun e' => e (H.inj k b ok o (H.lt k hdk) hb hgk hg hdk hd e'))]
      exact hy
  · rintro k ok _ hgk (rfl | hdk) hGk
    · simp only [Ren.put, if_true]; exact H.own b o hb hg hd hG
    · obtain ⟨e, hgk⟩ := old k ok hdk hgk
      simp only [Ren.put, if_neg (ne k hdk)]; exact H.own k ok (H.lt k hdk) hgk hdk hGk
  · rintro k k' ok ok' _ _ hgk hgk' (rfl | hdk) (rfl | hdk') e
    · rfl
    · obtain ⟨e1, hgk'⟩ := old k' ok' hdk' hgk'
      simp only [Ren.put, if_true, if_neg (ne k' hdk')] at e
      exact absurd (H.inj k' b ok' o (H.lt k' hdk') hb hgk' hg hdk' hd e.symm) e1
    · obtain ⟨e1, hgk⟩ := old k ok hdk hgk
      simp only [Ren.put, if_true, if_neg (ne k hdk)] at e
      exact absurd (H.inj k b ok o (H.lt k hdk) hb hgk hg hdk hd e) e1
    · obtain ⟨_, hgk⟩ := old k ok hdk hgk
      obtain ⟨_, hgk'⟩ := old k' ok' hdk' hgk'
      simp only [Ren.put, if_neg (ne k hdk), if_neg (ne k' hdk')] at e
      exact H.inj k k' ok ok' (H.lt k hdk) (H.lt k' hdk') hgk hgk' hdk hdk' e
  · intro g hg'
    obtain ⟨p, q⟩ := H.glob g hg'
    exact ⟨.inr p, by simp only [Ren.put, if_neg (ne g p)]; exact q⟩
  · have hgl := H.gl
    rintro g hg1 hg2 (rfl | hd')
    · omega
    · simp only [Ren.put, if_neg (ne g hd')]
      obtain ⟨a1, a2, a3⟩ := H.arg g hg1 hg2 hd'
      refine ⟨a1, a2, ?_⟩
      rintro g' h1 h2 (rfl | hd2)
      · omega
      · rw [if_neg (ne g' hd2)]; exact a3 g' h1 h2 hd2
  · rintro k (rfl | hk)
    · simp only [Ren.put, if_true, u.size]; exact H.in_ b hd
    · simp only [Ren.put, if_neg (ne k hk), u.size]; exact H.in_ k hk
  · rintro (rfl | h')
    · exact Nat.lt_irrefl _ hk
    · exact hnd h'
  · exact live k hk (fun e => hnd (e ▸ hd))

/-- as `move`, into a block of the world's own that is new; the old name is no more -/
theorem HRel.drop (H : HRel G w0 ρ h nx w) (b : Nat) (hb : b < nx) (hd : ρ.d b) : HRel G w0 ρ (h.del b) nx w ∧ Ext ρ h nx ρ (h.del b) nx := by
  have live : ∀ k, k < nx → k ≠ b → (h.del b).get k = h.get k := fun k hk hne => get_del_other h (H.key hb) (H.key hk) (Ne.symm hne)
  have old : ∀ k ok, k < nx → (h.del b).get k = some ok → h.get k = some ok := by
    intro k ok hk hgk
    by_cases e : k = b
    · rw [e, get_del_same] at hgk; cases hgk
    · exact (live k hk e) ▸ hgk
  exact ⟨⟨H.below, H.lt, H.lim, H.gl, fun k ok hk hgk => H.obj k ok hk (old k ok hk hgk), fun k ok hk hgk => H.own k ok hk (old k ok hk hgk),
    fun k k' ok ok' hk hk' hgk hgk' => H.inj k k' ok ok' hk hk' (old k ok hk hgk) (old k' ok' hk' hgk'), H.glob, H.arg, H.in_,
    fun k hk hm => by rw [get_del_other h (H.key hb) hm (by omega)]; exact H.top k hk hm⟩,
    ⟨Ren.Le.refl ρ, Nat.le_refl _, fun k hk hnd => ⟨hnd, live k hk (fun e => hnd (e ▸ hd))⟩⟩⟩
end

end Go.Vai
