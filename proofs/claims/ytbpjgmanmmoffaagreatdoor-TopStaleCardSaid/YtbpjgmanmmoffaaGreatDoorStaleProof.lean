/- The law TopStale returns true, in every world in which its listed variables read as the program's text lays them: the tied card. -/
import Derived.Test.YtbpjgmanmmoffaaGreatDoorStaleRun
import Derived.Test.YtbpjgmanmmoffaaGreatDoorRows
import Derived.Test.YtbpjgmanmmoffaaGreatDoorStaleTie
import Derived.Test.YtbpjgmanmmoffaaGreatDoorCards
import Derived.SevenTiedAt
import Derived.ProofKit
import Derived.OpenShut
import Derived.LaidMore
import Derived.Lay
import Derived.Stop.Joined
import Derived.Below
import Derived.Test.YtbpjgmanmmoffaaGreatDoorStaleFacts
namespace Go.Proofs.YtbpjgmanmmoffaaGreatDoor.Stale
open Go.ChangeShapes Go.WideShapes Go.ChangeAt Go.RowKit Go.Vai
set_option maxRecDepth 100000

theorem own : ownKnob Tryz.prog.godebug = none := by kernel_rfl
theorem tab0_heap {W : World} (h : laidMetH Tryz.prog Rows.topStaleRow.laid W) : ∃ ty, W.heap[2]? = some (.cells (tab0.map fun z => Value.int .u8 z).toArray ty (0, 0)) := by
  rw [MakeChecks.laidMetH_plain _ _ _ (by kernel_rfl)] at h
  exact tab_heap (name := "unicode/utf8.first") (t := ((Tryz.prog.globals[2]?).map (·.type)).getD 0) (e := elemT Tryz.prog (((Tryz.prog.globals[2]?).map (·.type)).getD 0)) (n := 256) (fun x => x.1 == "unicode/utf8.first") (by kernel_rfl) (by kernel_rfl) (by kernel_rfl) (by kernel_rfl) (by kernel_rfl) (by kernel_rfl) (by kernel_rfl) (by decide) h
theorem tab1_heap {W : World} (h : laidMetH Tryz.prog Rows.topStaleRow.laid W) : ∃ ty, W.heap[3]? = some (.cells (tab1.map fun z => Value.int .u8 z).toArray ty (0, 0)) := by
  rw [MakeChecks.laidMetH_plain _ _ _ (by kernel_rfl)] at h
  exact rows_heapB (name := "unicode/utf8.acceptRanges") (ps := [[128, 191], [160, 191], [128, 159], [144, 191], [128, 143], [0, 0], [0, 0], [0, 0], [0, 0], [0, 0], [0, 0], [0, 0], [0, 0], [0, 0], [0, 0], [0, 0]]) (t := ((Tryz.prog.globals[3]?).map (·.type)).getD 0) (e := elemT Tryz.prog (((Tryz.prog.globals[3]?).map (·.type)).getD 0)) (n := 16) (m := 2) (fun x => x.1 == "unicode/utf8.acceptRanges") (by rfl) (by kernel_rfl) (by kernel_rfl) (by kernel_rfl) (by kernel_rfl) (by kernel_rfl) (by kernel_rfl) (by decide) (by kernel_rfl) (by kernel_rfl) (by decide) (by decide) h
theorem tab2_heap {W : World} (h : laidMetH Tryz.prog Rows.topStaleRow.laid W) : ∃ ty, W.heap[1]? = some (.cells (tab2.map fun z => Value.int .u64 z).toArray ty (0, 0)) := by
  rw [MakeChecks.laidMetH_plain _ _ _ (by kernel_rfl)] at h
  exact tab_heap (name := "internal/strconv.uint64pow10") (t := ((Tryz.prog.globals[1]?).map (·.type)).getD 0) (e := elemT Tryz.prog (((Tryz.prog.globals[1]?).map (·.type)).getD 0)) (n := 20) (fun x => x.1 == "internal/strconv.uint64pow10") (by rfl) (by kernel_rfl) (by kernel_rfl) (by kernel_rfl) (by kernel_rfl) (by kernel_rfl) (by kernel_rfl) (by decide) h
theorem tab3_heap {W : World} (h : laidMetH Tryz.prog Rows.topStaleRow.laid W) : ∃ ty, W.heap[5]? = some (.cells (tab3.map fun z => Value.int .u8 z).toArray ty (0, 0)) := by
  rw [MakeChecks.laidMetH_plain _ _ _ (by kernel_rfl)] at h
  exact tab_heap (name := "math/bits.deBruijn32tab") (t := ((Tryz.prog.globals[5]?).map (·.type)).getD 0) (e := elemT Tryz.prog (((Tryz.prog.globals[5]?).map (·.type)).getD 0)) (n := 32) (fun x => x.1 == "math/bits.deBruijn32tab") (by rfl) (by kernel_rfl) (by kernel_rfl) (by kernel_rfl) (by kernel_rfl) (by kernel_rfl) (by kernel_rfl) (by decide) h
theorem tab4_heap {W : World} (h : laidMetH Tryz.prog Rows.topStaleRow.laid W) : ∃ ty, W.heap[6]? = some (.cells (tab4.map fun z => Value.int .u8 z).toArray ty (0, 0)) := by
  rw [MakeChecks.laidMetH_plain _ _ _ (by kernel_rfl)] at h
  exact tab_heap (name := "math/bits.deBruijn64tab") (t := ((Tryz.prog.globals[6]?).map (·.type)).getD 0) (e := elemT Tryz.prog (((Tryz.prog.globals[6]?).map (·.type)).getD 0)) (n := 64) (fun x => x.1 == "math/bits.deBruijn64tab") (by rfl) (by kernel_rfl) (by kernel_rfl) (by kernel_rfl) (by kernel_rfl) (by kernel_rfl) (by kernel_rfl) (by decide) h
theorem last_heap {W : World} (h : laidMetH Tryz.prog Rows.topStaleRow.laid W) : 11 ≤ W.heap.size := by
  rw [MakeChecks.laidMetH_plain _ _ _ (by kernel_rfl)] at h
  have h1 := laidMet.filter (fun x => x.1 == "strconv.ErrRange") h
  have e : Rows.topStaleRow.laid.filter (fun x => x.1 == "strconv.ErrRange") = [("strconv.ErrRange", Rows.laid_strconv_ErrRange)] := by rfl
  rw [e] at h1
  obtain ⟨ps, ⟨g, t, cs, fuel, p, q, hg, ht, hv, _, _, _⟩, _, _⟩ := h1
  obtain rfl := Option.some.inj ((show Tryz.prog.globalNamed "strconv.ErrRange" = some 10 by kernel_rfl).symm.trans hg)
  unfold World.var? at hv
  rw [hg] at hv
  simp only [Option.bind_some] at hv
  cases hh : W.heap[10]? with
  | none => rw [hh] at hv; simp at hv
  | some o => exact (Array.getElem?_eq_some_iff.1 hh).1

theorem walk (W : World) (h : laidMetH Tryz.prog Rows.topStaleRow.laid W) (b : Bool) : Calls Tryz.prog 4 #[.bool b] W fun e w' => e = .returned (.bool true) ∧ Below W.heap.size W w' := by
  obtain ⟨ty0, hx0⟩ := tab0_heap h
  obtain ⟨ty1, hx1⟩ := tab1_heap h
  obtain ⟨ty2, hx2⟩ := tab2_heap h
  obtain ⟨ty3, hx3⟩ := tab3_heap h
  obtain ⟨ty4, hx4⟩ := tab4_heap h
  cases b with
  | true =>
    have k := vaiL (args := [.bool true]) 60 (fun _ => 0) (by kernel_rfl) (by kernel_rfl) (known_ok ty0 ty1 ty2 ty3 ty4) (steps_ok ty0 ty1 ty2 ty3 ty4) (fun _ => ⟨trivial, trivial⟩) (by rfl) (runC0 ty0 ty1 ty2 ty3 ty4) W (last_heap h) ((((((StartOK.leaf 11 W).set (by unfold keyMax; omega) (by omega) hx0 (tabObj_rel (by decide))).set (by unfold keyMax; omega) (by omega) hx1 (tabObj_rel (by decide))).set (by unfold keyMax; omega) (by omega) hx2 (tabObj_rel (by decide))).set (by unfold keyMax; omega) (by omega) hx3 (tabObj_rel (by decide))).set (by unfold keyMax; omega) (by omega) hx4 (tabObj_rel (by decide)))
    refine k.mono fun e w' ⟨a, b⟩ => ⟨?_, b⟩
    rw [a]; simp [toV]
  | false =>
    have k := vaiL (args := [.bool false]) 60 (fun _ => 0) (by kernel_rfl) (by kernel_rfl) (known_ok ty0 ty1 ty2 ty3 ty4) (steps_ok ty0 ty1 ty2 ty3 ty4) (fun _ => ⟨trivial, trivial⟩) (by rfl) (runC1 ty0 ty1 ty2 ty3 ty4) W (last_heap h) ((((((StartOK.leaf 11 W).set (by unfold keyMax; omega) (by omega) hx0 (tabObj_rel (by decide))).set (by unfold keyMax; omega) (by omega) hx1 (tabObj_rel (by decide))).set (by unfold keyMax; omega) (by omega) hx2 (tabObj_rel (by decide))).set (by unfold keyMax; omega) (by omega) hx3 (tabObj_rel (by decide))).set (by unfold keyMax; omega) (by omega) hx4 (tabObj_rel (by decide)))
    refine k.mono fun e w' ⟨a, b⟩ => ⟨?_, b⟩
    rw [a]; simp [toV]

theorem lifted (os : Os) (started : os.Started) (H : Type) (enc : TypeId × Value → H) :
    ReturnsInHanded {} Tryz.checked os 4 .any (fun w args => (Rows.topStaleSpec.pre enc Tryz.prog Tryz.f4 Rows.topStaleRow.domain false w args ∧ laidMetH Tryz.prog Rows.topStaleRow.laid w) ∧ sizedMet enc Tryz.prog Tryz.f4 (OpenSpec.ofChange Rows.topStaleSpec) false w args)
      (Rows.topStaleSpec.post enc Tryz.prog Tryz.f4 false true false false) := by
  refine returnsInHanded_of_change_and (C := Tryz.checked) (X := fun w _ => laidMetH Tryz.prog Rows.topStaleRow.laid w) (fun _ _ _ hh h => h.of_heap hh) own started (by kernel_rfl) Tryz.func4
    (ChangeSpec.witness_shaped (enc := enc) (C := Tryz.checked) (os := os) (X := fun w _ => laidMetH Tryz.prog Rows.topStaleRow.laid w) false (World.laidAll Tryz.prog os Rows.topStaleRow.laid) #[.bool true] 8 (World.laidAll_os _ _ _)
      (World.shaped_of_ZipB (by kernel_rfl) (by kernel_rfl)) (by kernel_rfl) (by kernel_rfl) (by kernel_rfl)
      (by rw [MakeChecks.laidMetH_plain _ _ _ (by kernel_rfl)]; exact laidMet_laidAll _ (by kernel_rfl) (by kernel_rfl))) ?_
  intro W base args ds gs before hval0 hW hc _ hL _
  have hW' := hW
  obtain ⟨p, q, hA0, hV, rfl, _, _⟩ := hW
  have hA : DataW.TrodAll enc Tryz.prog W 0 (fun _ => true) true Tryz.f4.params.toList args.toList ds p := hA0
  rw [Tryz.params4] at hA
  obtain ⟨v, vs, d, ds', p1, p2, e1, rfl, rfl, hd, hr⟩ := trodAll_cons hA
  obtain ⟨rfl, rfl, rfl⟩ := trodAll_nil hr
  obtain rfl : args = #[v] := by apply Array.ext'; simpa using e1
  obtain ⟨b, rfl, rfl, rfl⟩ := open_bool Tryz.underlying4 (hval0 0 4 v (by rw [Tryz.params4]; rfl) rfl) hd
  obtain ⟨rfl, rfl⟩ := trodVars_none hV
  refine (walk W hL b).mono fun e W' ⟨he, bel⟩ => ?_
  subst he
  exact ⟨_, rfl, _, _, _, [], _, [], hW', trodAll_mk1 (shut_bool Tryz.underlying4 _), (by rw [Tryz.params4]; exact trodAll_mk1 (shut_bool Tryz.underlying4 b)), rfl, bel.frame _, fun h => by cases h⟩

theorem holds : Rows.TopStaleSaid :=
  OpenClaim.holds_of_wide 4 Tryz.f4 rfl rfl rfl rfl rfl rfl rfl ⟨rfl, rfl, rfl, rfl, rfl⟩ rfl rfl rfl rfl rfl named1 Tryz.func4 closed
    (of_decide_eq_true (by kernel_rfl)) wraps
    (fun os started H enc _ => lifted os started H enc)
theorem card_holds : Rows.TopStaleCardSaid :=
  Claim7.holds_tied_plain_at .later [] [.pinned, .data, .pinned, .sentinel, .sentinel, .data, .data, .data, .data, .data] true (true, "d13c41da5b079c588a310f23cd059119da49595a1174854c3e585bbe7a9ebcbc") true holds (fun _ h => by cases h) wfText (fun _ h => by cases h) topStale_row_tie rfl ⟨rfl, rfl⟩ mainIs rfl
    (fun f fn hf hfn => by
      obtain rfl : f = 4 := Option.some.inj (named1.symm.trans hf) |>.symm
      obtain rfl : fn = Tryz.f4 := (Option.some.inj (Tryz.func4.symm.trans hfn)).symm
      exact ⟨looksTo, fun j t ht => by
        rw [Tryz.params4] at ht
        match j, ht with
        | 0, ht =>
          have e : (4 : TypeId) = t := by simpa using ht
          rw [← e]
          exact (by kernel_rfl : Tryz.prog.wantsStandIn 4 = false)
        | j + 1, ht => simp at ht⟩)
    goesNot
#print axioms card_holds
end Go.Proofs.YtbpjgmanmmoffaaGreatDoor.Stale
