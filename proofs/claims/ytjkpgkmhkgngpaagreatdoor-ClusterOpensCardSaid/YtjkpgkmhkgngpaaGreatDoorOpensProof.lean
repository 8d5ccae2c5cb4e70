/- The law ClusterOpens returns true, in every world in which its listed variables read as the program's text lays them: the tied card. -/
import Derived.Test.YtjkpgkmhkgngpaaGreatDoorOpensRu0
import Derived.Test.YtjkpgkmhkgngpaaGreatDoorOpensRu1
import Derived.Test.YtjkpgkmhkgngpaaGreatDoorOpensRu2
import Derived.Test.YtjkpgkmhkgngpaaGreatDoorOpensRu3
import Derived.Test.YtjkpgkmhkgngpaaGreatDoorRows
import Derived.Test.YtjkpgkmhkgngpaaGreatDoorOpensTie
import Derived.Test.YtjkpgkmhkgngpaaGreatDoorCards
import Derived.SevenTiedAt
import Derived.ProofKit
import Derived.OpenShut
import Derived.LaidMore
import Derived.Lay
import Derived.Stop.Joined
import Derived.Below
import Derived.Test.YtjkpgkmhkgngpaaGreatDoorOpensFacts
import Derived.Test.YtjkpgkmhkgngpaaGreatDoorOpensShape
namespace Go.Proofs.YtjkpgkmhkgngpaaGreatDoor.Opens
open Go.ChangeShapes Go.WideShapes Go.ChangeAt Go.RowKit Go.Vai
set_option maxRecDepth 100000

theorem own : ownKnob Tryz.prog.godebug = none := by kernel_rfl
theorem tab0_heap {W : World} (h : laidMetH Tryz.prog Rows.clusterOpensRow.laid W) : ∃ ty, W.heap[2]? = some (.cells (tab0.map fun z => Value.int .u8 z).toArray ty (0, 0)) := by
  rw [MakeChecks.laidMetH_plain _ _ _ (by kernel_rfl)] at h
  exact tab_heap (name := "unicode/utf8.first") (t := ((Tryz.prog.globals[2]?).map (·.type)).getD 0) (e := elemT Tryz.prog (((Tryz.prog.globals[2]?).map (·.type)).getD 0)) (n := 256) (fun x => x.1 == "unicode/utf8.first") (by kernel_rfl) (by kernel_rfl) (by kernel_rfl) (by kernel_rfl) (by kernel_rfl) (by kernel_rfl) (by kernel_rfl) (by decide) h
theorem tab1_heap {W : World} (h : laidMetH Tryz.prog Rows.clusterOpensRow.laid W) : ∃ ty, W.heap[3]? = some (.cells (tab1.map fun z => Value.int .u8 z).toArray ty (0, 0)) := by
  rw [MakeChecks.laidMetH_plain _ _ _ (by kernel_rfl)] at h
  exact rows_heapB (name := "unicode/utf8.acceptRanges") (ps := [[128, 191], [160, 191], [128, 159], [144, 191], [128, 143], [0, 0], [0, 0], [0, 0], [0, 0], [0, 0], [0, 0], [0, 0], [0, 0], [0, 0], [0, 0], [0, 0]]) (t := ((Tryz.prog.globals[3]?).map (·.type)).getD 0) (e := elemT Tryz.prog (((Tryz.prog.globals[3]?).map (·.type)).getD 0)) (n := 16) (m := 2) (fun x => x.1 == "unicode/utf8.acceptRanges") (by rfl) (by kernel_rfl) (by kernel_rfl) (by kernel_rfl) (by kernel_rfl) (by kernel_rfl) (by kernel_rfl) (by decide) (by kernel_rfl) (by kernel_rfl) (by decide) (by decide) h
theorem tab2_heap {W : World} (h : laidMetH Tryz.prog Rows.clusterOpensRow.laid W) : ∃ ty, W.heap[1]? = some (.cells (tab2.map fun z => Value.int .u64 z).toArray ty (0, 0)) := by
  rw [MakeChecks.laidMetH_plain _ _ _ (by kernel_rfl)] at h
  exact tab_heap (name := "internal/strconv.uint64pow10") (t := ((Tryz.prog.globals[1]?).map (·.type)).getD 0) (e := elemT Tryz.prog (((Tryz.prog.globals[1]?).map (·.type)).getD 0)) (n := 20) (fun x => x.1 == "internal/strconv.uint64pow10") (by rfl) (by kernel_rfl) (by kernel_rfl) (by kernel_rfl) (by kernel_rfl) (by kernel_rfl) (by kernel_rfl) (by decide) h
theorem tab3_heap {W : World} (h : laidMetH Tryz.prog Rows.clusterOpensRow.laid W) : ∃ ty, W.heap[5]? = some (.cells (tab3.map fun z => Value.int .u8 z).toArray ty (0, 0)) := by
  rw [MakeChecks.laidMetH_plain _ _ _ (by kernel_rfl)] at h
  exact tab_heap (name := "math/bits.deBruijn32tab") (t := ((Tryz.prog.globals[5]?).map (·.type)).getD 0) (e := elemT Tryz.prog (((Tryz.prog.globals[5]?).map (·.type)).getD 0)) (n := 32) (fun x => x.1 == "math/bits.deBruijn32tab") (by rfl) (by kernel_rfl) (by kernel_rfl) (by kernel_rfl) (by kernel_rfl) (by kernel_rfl) (by kernel_rfl) (by decide) h
theorem tab4_heap {W : World} (h : laidMetH Tryz.prog Rows.clusterOpensRow.laid W) : ∃ ty, W.heap[6]? = some (.cells (tab4.map fun z => Value.int .u8 z).toArray ty (0, 0)) := by
  rw [MakeChecks.laidMetH_plain _ _ _ (by kernel_rfl)] at h
  exact tab_heap (name := "math/bits.deBruijn64tab") (t := ((Tryz.prog.globals[6]?).map (·.type)).getD 0) (e := elemT Tryz.prog (((Tryz.prog.globals[6]?).map (·.type)).getD 0)) (n := 64) (fun x => x.1 == "math/bits.deBruijn64tab") (by rfl) (by kernel_rfl) (by kernel_rfl) (by kernel_rfl) (by kernel_rfl) (by kernel_rfl) (by kernel_rfl) (by decide) h
theorem last_heap {W : World} (h : laidMetH Tryz.prog Rows.clusterOpensRow.laid W) : 15 ≤ W.heap.size + 4 := by
  rw [MakeChecks.laidMetH_plain _ _ _ (by kernel_rfl)] at h
  have h1 := laidMet.filter (fun x => x.1 == "strconv.ErrRange") h
  have e : Rows.clusterOpensRow.laid.filter (fun x => x.1 == "strconv.ErrRange") = [("strconv.ErrRange", Rows.laid_strconv_ErrRange)] := by rfl
  rw [e] at h1
  obtain ⟨ps, ⟨g, t, cs, fuel, p, q, hg, ht, hv, _, _, _⟩, _, _⟩ := h1
  obtain rfl := Option.some.inj ((show Tryz.prog.globalNamed "strconv.ErrRange" = some 10 by kernel_rfl).symm.trans hg)
  unfold World.var? at hv
  rw [hg] at hv
  simp only [Option.bind_some] at hv
  cases hh : W.heap[10]? with
  | none => rw [hh] at hv; simp at hv
  | some o =>
    have := (Array.getElem?_eq_some_iff.1 hh).1
    omega

theorem walk (W : World) (h : laidMetH Tryz.prog Rows.clusterOpensRow.laid W) (x y : Int) (hx : -9223372036854775808 ≤ x ∧ x ≤ 9223372036854775807) (hy : -9223372036854775808 ≤ y ∧ y ≤ 9223372036854775807) : Calls Tryz.prog 6 #[.int .i64 x, .int .i64 y] W fun e w' => e = .returned (.bool true) ∧ Below W.heap.size W w' := by
  obtain ⟨ty0, hx0⟩ := tab0_heap h
  obtain ⟨ty1, hx1⟩ := tab1_heap h
  obtain ⟨ty2, hx2⟩ := tab2_heap h
  obtain ⟨ty3, hx3⟩ := tab3_heap h
  obtain ⟨ty4, hx4⟩ := tab4_heap h
  have c0 : x ≤ 0 → Calls Tryz.prog 6 #[.int .i64 x, .int .i64 y] W fun e w' => e = .returned (.bool true) ∧ Below W.heap.size W w' := by
    intro hc
    have k := vaiL (args := [.lint .i64 0 [⟨0, 1, (-9223372036854775808), 9223372036854775808⟩], .lint .i64 0 [⟨1, 1, (-9223372036854775808), 18446744073709551615⟩]]) 60 (fun j => if j = 0 then x else y) (by kernel_rfl) (by kernel_rfl) (known_ok ty0 ty1 ty2 ty3 ty4) (steps_ok ty0 ty1 ty2 ty3 ty4) (fun _ => ⟨trivial, trivial, trivial⟩) (by rfl) (runC0 ty0 ty1 ty2 ty3 ty4) W (last_heap h) ((((((StartOK.leaf 15 W).set (by unfold keyMax; omega) (by omega) hx0 (tabObj_rel (by decide))).set (by unfold keyMax; omega) (by omega) hx1 (tabObj_rel (by decide))).set (by unfold keyMax; omega) (by omega) hx2 (tabObj_rel (by decide))).set (by unfold keyMax; omega) (by omega) hx3 (tabObj_rel (by decide))).set (by unfold keyMax; omega) (by omega) hx4 (tabObj_rel (by decide)))
    have e1 := lint1 (G := 15) (sv := fun j => if j = 0 then x else y) (k := .i64) (c := 0) (a := 1) (lo := (-9223372036854775808)) (n := x) (j := 0) (w := 9223372036854775808) (by show _ ≤ x; omega) (by show x ≤ _; omega) (by show 1 * x + 0 = x; omega)
    have e2 := lint1 (G := 15) (sv := fun j => if j = 0 then x else y) (k := .i64) (c := 0) (a := 1) (lo := (-9223372036854775808)) (n := y) (j := 1) (w := 18446744073709551615) (by show _ ≤ y; omega) (by show y ≤ _; omega) (by show 1 * y + 0 = y; omega)
    simp only [List.map_cons, List.map_nil] at k
    rw [e1, e2] at k
    refine k.mono fun e w' ⟨a, b⟩ => ⟨?_, b⟩
    rw [a]; simp [toV]
  have c1 : 8 ≤ x → Calls Tryz.prog 6 #[.int .i64 x, .int .i64 y] W fun e w' => e = .returned (.bool true) ∧ Below W.heap.size W w' := by
    intro hc
    have k := vaiL (args := [.lint .i64 0 [⟨0, 1, 8, 9223372036854775799⟩], .lint .i64 0 [⟨1, 1, (-9223372036854775808), 18446744073709551615⟩]]) 60 (fun j => if j = 0 then x else y) (by kernel_rfl) (by kernel_rfl) (known_ok ty0 ty1 ty2 ty3 ty4) (steps_ok ty0 ty1 ty2 ty3 ty4) (fun _ => ⟨trivial, trivial, trivial⟩) (by rfl) (runC1 ty0 ty1 ty2 ty3 ty4) W (last_heap h) ((((((StartOK.leaf 15 W).set (by unfold keyMax; omega) (by omega) hx0 (tabObj_rel (by decide))).set (by unfold keyMax; omega) (by omega) hx1 (tabObj_rel (by decide))).set (by unfold keyMax; omega) (by omega) hx2 (tabObj_rel (by decide))).set (by unfold keyMax; omega) (by omega) hx3 (tabObj_rel (by decide))).set (by unfold keyMax; omega) (by omega) hx4 (tabObj_rel (by decide)))
    have e1 := lint1 (G := 15) (sv := fun j => if j = 0 then x else y) (k := .i64) (c := 0) (a := 1) (lo := 8) (n := x) (j := 0) (w := 9223372036854775799) (by show _ ≤ x; omega) (by show x ≤ _; omega) (by show 1 * x + 0 = x; omega)
    have e2 := lint1 (G := 15) (sv := fun j => if j = 0 then x else y) (k := .i64) (c := 0) (a := 1) (lo := (-9223372036854775808)) (n := y) (j := 1) (w := 18446744073709551615) (by show _ ≤ y; omega) (by show y ≤ _; omega) (by show 1 * y + 0 = y; omega)
    simp only [List.map_cons, List.map_nil] at k
    rw [e1, e2] at k
    refine k.mono fun e w' ⟨a, b⟩ => ⟨?_, b⟩
    rw [a]; simp [toV]
  have c2 : (1 ≤ x ∧ x ≤ 7) ∧ y ≤ 0 → Calls Tryz.prog 6 #[.int .i64 x, .int .i64 y] W fun e w' => e = .returned (.bool true) ∧ Below W.heap.size W w' := by
    intro hc
    have k := vaiL (args := [.lint .i64 0 [⟨0, 1, 1, 6⟩], .lint .i64 0 [⟨1, 1, (-9223372036854775808), 9223372036854775808⟩]]) 60 (fun j => if j = 0 then x else y) (by kernel_rfl) (by kernel_rfl) (known_ok ty0 ty1 ty2 ty3 ty4) (steps_ok ty0 ty1 ty2 ty3 ty4) (fun _ => ⟨trivial, trivial, trivial⟩) (by rfl) (runC2 ty0 ty1 ty2 ty3 ty4) W (last_heap h) ((((((StartOK.leaf 15 W).set (by unfold keyMax; omega) (by omega) hx0 (tabObj_rel (by decide))).set (by unfold keyMax; omega) (by omega) hx1 (tabObj_rel (by decide))).set (by unfold keyMax; omega) (by omega) hx2 (tabObj_rel (by decide))).set (by unfold keyMax; omega) (by omega) hx3 (tabObj_rel (by decide))).set (by unfold keyMax; omega) (by omega) hx4 (tabObj_rel (by decide)))
    have e1 := lint1 (G := 15) (sv := fun j => if j = 0 then x else y) (k := .i64) (c := 0) (a := 1) (lo := 1) (n := x) (j := 0) (w := 6) (by show _ ≤ x; omega) (by show x ≤ _; omega) (by show 1 * x + 0 = x; omega)
    have e2 := lint1 (G := 15) (sv := fun j => if j = 0 then x else y) (k := .i64) (c := 0) (a := 1) (lo := (-9223372036854775808)) (n := y) (j := 1) (w := 9223372036854775808) (by show _ ≤ y; omega) (by show y ≤ _; omega) (by show 1 * y + 0 = y; omega)
    simp only [List.map_cons, List.map_nil] at k
    rw [e1, e2] at k
    refine k.mono fun e w' ⟨a, b⟩ => ⟨?_, b⟩
    rw [a]; simp [toV]
  have c3 : (1 ≤ x ∧ x ≤ 7) ∧ 5 ≤ y → Calls Tryz.prog 6 #[.int .i64 x, .int .i64 y] W fun e w' => e = .returned (.bool true) ∧ Below W.heap.size W w' := by
    intro hc
    have k := vaiL (args := [.lint .i64 0 [⟨0, 1, 1, 6⟩], .lint .i64 0 [⟨1, 1, 5, 9223372036854775802⟩]]) 60 (fun j => if j = 0 then x else y) (by kernel_rfl) (by kernel_rfl) (known_ok ty0 ty1 ty2 ty3 ty4) (steps_ok ty0 ty1 ty2 ty3 ty4) (fun _ => ⟨trivial, trivial, trivial⟩) (by rfl) (runC3 ty0 ty1 ty2 ty3 ty4) W (last_heap h) ((((((StartOK.leaf 15 W).set (by unfold keyMax; omega) (by omega) hx0 (tabObj_rel (by decide))).set (by unfold keyMax; omega) (by omega) hx1 (tabObj_rel (by decide))).set (by unfold keyMax; omega) (by omega) hx2 (tabObj_rel (by decide))).set (by unfold keyMax; omega) (by omega) hx3 (tabObj_rel (by decide))).set (by unfold keyMax; omega) (by omega) hx4 (tabObj_rel (by decide)))
    have e1 := lint1 (G := 15) (sv := fun j => if j = 0 then x else y) (k := .i64) (c := 0) (a := 1) (lo := 1) (n := x) (j := 0) (w := 6) (by show _ ≤ x; omega) (by show x ≤ _; omega) (by show 1 * x + 0 = x; omega)
    have e2 := lint1 (G := 15) (sv := fun j => if j = 0 then x else y) (k := .i64) (c := 0) (a := 1) (lo := 5) (n := y) (j := 1) (w := 9223372036854775802) (by show _ ≤ y; omega) (by show y ≤ _; omega) (by show 1 * y + 0 = y; omega)
    simp only [List.map_cons, List.map_nil] at k
    rw [e1, e2] at k
    refine k.mono fun e w' ⟨a, b⟩ => ⟨?_, b⟩
    rw [a]; simp [toV]
  have c4 : x = 1 ∧ y = 1 → Calls Tryz.prog 6 #[.int .i64 x, .int .i64 y] W fun e w' => e = .returned (.bool true) ∧ Below W.heap.size W w' := by
    intro hc
    obtain ⟨rfl, rfl⟩ := hc
    have k := vaiL (args := [.int .i64 1, .int .i64 1]) 60 (fun _ => 0) (by kernel_rfl) (by kernel_rfl) (known_ok ty0 ty1 ty2 ty3 ty4) (steps_ok ty0 ty1 ty2 ty3 ty4) (fun _ => ⟨trivial, trivial, trivial⟩) (by rfl) (runC4 ty0 ty1 ty2 ty3 ty4) W (last_heap h) ((((((StartOK.leaf 15 W).set (by unfold keyMax; omega) (by omega) hx0 (tabObj_rel (by decide))).set (by unfold keyMax; omega) (by omega) hx1 (tabObj_rel (by decide))).set (by unfold keyMax; omega) (by omega) hx2 (tabObj_rel (by decide))).set (by unfold keyMax; omega) (by omega) hx3 (tabObj_rel (by decide))).set (by unfold keyMax; omega) (by omega) hx4 (tabObj_rel (by decide)))
    simp only [List.map_cons, List.map_nil, toV] at k
    exact k
  have c5 : x = 1 ∧ y = 2 → Calls Tryz.prog 6 #[.int .i64 x, .int .i64 y] W fun e w' => e = .returned (.bool true) ∧ Below W.heap.size W w' := by
    intro hc
    obtain ⟨rfl, rfl⟩ := hc
    have k := vaiL (args := [.int .i64 1, .int .i64 2]) 60 (fun _ => 0) (by kernel_rfl) (by kernel_rfl) (known_ok ty0 ty1 ty2 ty3 ty4) (steps_ok ty0 ty1 ty2 ty3 ty4) (fun _ => ⟨trivial, trivial, trivial⟩) (by rfl) (runC5 ty0 ty1 ty2 ty3 ty4) W (last_heap h) ((((((StartOK.leaf 15 W).set (by unfold keyMax; omega) (by omega) hx0 (tabObj_rel (by decide))).set (by unfold keyMax; omega) (by omega) hx1 (tabObj_rel (by decide))).set (by unfold keyMax; omega) (by omega) hx2 (tabObj_rel (by decide))).set (by unfold keyMax; omega) (by omega) hx3 (tabObj_rel (by decide))).set (by unfold keyMax; omega) (by omega) hx4 (tabObj_rel (by decide)))
    simp only [List.map_cons, List.map_nil, toV] at k
    exact k
  have c6 : x = 1 ∧ y = 3 → Calls Tryz.prog 6 #[.int .i64 x, .int .i64 y] W fun e w' => e = .returned (.bool true) ∧ Below W.heap.size W w' := by
    intro hc
    obtain ⟨rfl, rfl⟩ := hc
    have k := vaiL (args := [.int .i64 1, .int .i64 3]) 60 (fun _ => 0) (by kernel_rfl) (by kernel_rfl) (known_ok ty0 ty1 ty2 ty3 ty4) (steps_ok ty0 ty1 ty2 ty3 ty4) (fun _ => ⟨trivial, trivial, trivial⟩) (by rfl) (runC6 ty0 ty1 ty2 ty3 ty4) W (last_heap h) ((((((StartOK.leaf 15 W).set (by unfold keyMax; omega) (by omega) hx0 (tabObj_rel (by decide))).set (by unfold keyMax; omega) (by omega) hx1 (tabObj_rel (by decide))).set (by unfold keyMax; omega) (by omega) hx2 (tabObj_rel (by decide))).set (by unfold keyMax; omega) (by omega) hx3 (tabObj_rel (by decide))).set (by unfold keyMax; omega) (by omega) hx4 (tabObj_rel (by decide)))
    simp only [List.map_cons, List.map_nil, toV] at k
    exact k
  have c7 : x = 1 ∧ y = 4 → Calls Tryz.prog 6 #[.int .i64 x, .int .i64 y] W fun e w' => e = .returned (.bool true) ∧ Below W.heap.size W w' := by
    intro hc
    obtain ⟨rfl, rfl⟩ := hc
    have k := vaiL (args := [.int .i64 1, .int .i64 4]) 60 (fun _ => 0) (by kernel_rfl) (by kernel_rfl) (known_ok ty0 ty1 ty2 ty3 ty4) (steps_ok ty0 ty1 ty2 ty3 ty4) (fun _ => ⟨trivial, trivial, trivial⟩) (by rfl) (runC7 ty0 ty1 ty2 ty3 ty4) W (last_heap h) ((((((StartOK.leaf 15 W).set (by unfold keyMax; omega) (by omega) hx0 (tabObj_rel (by decide))).set (by unfold keyMax; omega) (by omega) hx1 (tabObj_rel (by decide))).set (by unfold keyMax; omega) (by omega) hx2 (tabObj_rel (by decide))).set (by unfold keyMax; omega) (by omega) hx3 (tabObj_rel (by decide))).set (by unfold keyMax; omega) (by omega) hx4 (tabObj_rel (by decide)))
    simp only [List.map_cons, List.map_nil, toV] at k
    exact k
  have c8 : x = 2 ∧ y = 1 → Calls Tryz.prog 6 #[.int .i64 x, .int .i64 y] W fun e w' => e = .returned (.bool true) ∧ Below W.heap.size W w' := by
    intro hc
    obtain ⟨rfl, rfl⟩ := hc
    have k := vaiL (args := [.int .i64 2, .int .i64 1]) 60 (fun _ => 0) (by kernel_rfl) (by kernel_rfl) (known_ok ty0 ty1 ty2 ty3 ty4) (steps_ok ty0 ty1 ty2 ty3 ty4) (fun _ => ⟨trivial, trivial, trivial⟩) (by rfl) (runC8 ty0 ty1 ty2 ty3 ty4) W (last_heap h) ((((((StartOK.leaf 15 W).set (by unfold keyMax; omega) (by omega) hx0 (tabObj_rel (by decide))).set (by unfold keyMax; omega) (by omega) hx1 (tabObj_rel (by decide))).set (by unfold keyMax; omega) (by omega) hx2 (tabObj_rel (by decide))).set (by unfold keyMax; omega) (by omega) hx3 (tabObj_rel (by decide))).set (by unfold keyMax; omega) (by omega) hx4 (tabObj_rel (by decide)))
    simp only [List.map_cons, List.map_nil, toV] at k
    exact k
  have c9 : x = 2 ∧ y = 2 → Calls Tryz.prog 6 #[.int .i64 x, .int .i64 y] W fun e w' => e = .returned (.bool true) ∧ Below W.heap.size W w' := by
    intro hc
    obtain ⟨rfl, rfl⟩ := hc
    have k := vaiL (args := [.int .i64 2, .int .i64 2]) 60 (fun _ => 0) (by kernel_rfl) (by kernel_rfl) (known_ok ty0 ty1 ty2 ty3 ty4) (steps_ok ty0 ty1 ty2 ty3 ty4) (fun _ => ⟨trivial, trivial, trivial⟩) (by rfl) (runC9 ty0 ty1 ty2 ty3 ty4) W (last_heap h) ((((((StartOK.leaf 15 W).set (by unfold keyMax; omega) (by omega) hx0 (tabObj_rel (by decide))).set (by unfold keyMax; omega) (by omega) hx1 (tabObj_rel (by decide))).set (by unfold keyMax; omega) (by omega) hx2 (tabObj_rel (by decide))).set (by unfold keyMax; omega) (by omega) hx3 (tabObj_rel (by decide))).set (by unfold keyMax; omega) (by omega) hx4 (tabObj_rel (by decide)))
    simp only [List.map_cons, List.map_nil, toV] at k
    exact k
  have c10 : x = 2 ∧ y = 3 → Calls Tryz.prog 6 #[.int .i64 x, .int .i64 y] W fun e w' => e = .returned (.bool true) ∧ Below W.heap.size W w' := by
    intro hc
    obtain ⟨rfl, rfl⟩ := hc
    have k := vaiL (args := [.int .i64 2, .int .i64 3]) 60 (fun _ => 0) (by kernel_rfl) (by kernel_rfl) (known_ok ty0 ty1 ty2 ty3 ty4) (steps_ok ty0 ty1 ty2 ty3 ty4) (fun _ => ⟨trivial, trivial, trivial⟩) (by rfl) (runC10 ty0 ty1 ty2 ty3 ty4) W (last_heap h) ((((((StartOK.leaf 15 W).set (by unfold keyMax; omega) (by omega) hx0 (tabObj_rel (by decide))).set (by unfold keyMax; omega) (by omega) hx1 (tabObj_rel (by decide))).set (by unfold keyMax; omega) (by omega) hx2 (tabObj_rel (by decide))).set (by unfold keyMax; omega) (by omega) hx3 (tabObj_rel (by decide))).set (by unfold keyMax; omega) (by omega) hx4 (tabObj_rel (by decide)))
    simp only [List.map_cons, List.map_nil, toV] at k
    exact k
  have c11 : x = 2 ∧ y = 4 → Calls Tryz.prog 6 #[.int .i64 x, .int .i64 y] W fun e w' => e = .returned (.bool true) ∧ Below W.heap.size W w' := by
    intro hc
    obtain ⟨rfl, rfl⟩ := hc
    have k := vaiL (args := [.int .i64 2, .int .i64 4]) 60 (fun _ => 0) (by kernel_rfl) (by kernel_rfl) (known_ok ty0 ty1 ty2 ty3 ty4) (steps_ok ty0 ty1 ty2 ty3 ty4) (fun _ => ⟨trivial, trivial, trivial⟩) (by rfl) (runC11 ty0 ty1 ty2 ty3 ty4) W (last_heap h) ((((((StartOK.leaf 15 W).set (by unfold keyMax; omega) (by omega) hx0 (tabObj_rel (by decide))).set (by unfold keyMax; omega) (by omega) hx1 (tabObj_rel (by decide))).set (by unfold keyMax; omega) (by omega) hx2 (tabObj_rel (by decide))).set (by unfold keyMax; omega) (by omega) hx3 (tabObj_rel (by decide))).set (by unfold keyMax; omega) (by omega) hx4 (tabObj_rel (by decide)))
    simp only [List.map_cons, List.map_nil, toV] at k
    exact k
  have c12 : x = 3 ∧ y = 1 → Calls Tryz.prog 6 #[.int .i64 x, .int .i64 y] W fun e w' => e = .returned (.bool true) ∧ Below W.heap.size W w' := by
    intro hc
    obtain ⟨rfl, rfl⟩ := hc
    have k := vaiL (args := [.int .i64 3, .int .i64 1]) 60 (fun _ => 0) (by kernel_rfl) (by kernel_rfl) (known_ok ty0 ty1 ty2 ty3 ty4) (steps_ok ty0 ty1 ty2 ty3 ty4) (fun _ => ⟨trivial, trivial, trivial⟩) (by rfl) (runC12 ty0 ty1 ty2 ty3 ty4) W (last_heap h) ((((((StartOK.leaf 15 W).set (by unfold keyMax; omega) (by omega) hx0 (tabObj_rel (by decide))).set (by unfold keyMax; omega) (by omega) hx1 (tabObj_rel (by decide))).set (by unfold keyMax; omega) (by omega) hx2 (tabObj_rel (by decide))).set (by unfold keyMax; omega) (by omega) hx3 (tabObj_rel (by decide))).set (by unfold keyMax; omega) (by omega) hx4 (tabObj_rel (by decide)))
    simp only [List.map_cons, List.map_nil, toV] at k
    exact k
  have c13 : x = 3 ∧ y = 2 → Calls Tryz.prog 6 #[.int .i64 x, .int .i64 y] W fun e w' => e = .returned (.bool true) ∧ Below W.heap.size W w' := by
    intro hc
    obtain ⟨rfl, rfl⟩ := hc
    have k := vaiL (args := [.int .i64 3, .int .i64 2]) 60 (fun _ => 0) (by kernel_rfl) (by kernel_rfl) (known_ok ty0 ty1 ty2 ty3 ty4) (steps_ok ty0 ty1 ty2 ty3 ty4) (fun _ => ⟨trivial, trivial, trivial⟩) (by rfl) (runC13 ty0 ty1 ty2 ty3 ty4) W (last_heap h) ((((((StartOK.leaf 15 W).set (by unfold keyMax; omega) (by omega) hx0 (tabObj_rel (by decide))).set (by unfold keyMax; omega) (by omega) hx1 (tabObj_rel (by decide))).set (by unfold keyMax; omega) (by omega) hx2 (tabObj_rel (by decide))).set (by unfold keyMax; omega) (by omega) hx3 (tabObj_rel (by decide))).set (by unfold keyMax; omega) (by omega) hx4 (tabObj_rel (by decide)))
    simp only [List.map_cons, List.map_nil, toV] at k
    exact k
  have c14 : x = 3 ∧ y = 3 → Calls Tryz.prog 6 #[.int .i64 x, .int .i64 y] W fun e w' => e = .returned (.bool true) ∧ Below W.heap.size W w' := by
    intro hc
    obtain ⟨rfl, rfl⟩ := hc
    have k := vaiL (args := [.int .i64 3, .int .i64 3]) 60 (fun _ => 0) (by kernel_rfl) (by kernel_rfl) (known_ok ty0 ty1 ty2 ty3 ty4) (steps_ok ty0 ty1 ty2 ty3 ty4) (fun _ => ⟨trivial, trivial, trivial⟩) (by rfl) (runC14 ty0 ty1 ty2 ty3 ty4) W (last_heap h) ((((((StartOK.leaf 15 W).set (by unfold keyMax; omega) (by omega) hx0 (tabObj_rel (by decide))).set (by unfold keyMax; omega) (by omega) hx1 (tabObj_rel (by decide))).set (by unfold keyMax; omega) (by omega) hx2 (tabObj_rel (by decide))).set (by unfold keyMax; omega) (by omega) hx3 (tabObj_rel (by decide))).set (by unfold keyMax; omega) (by omega) hx4 (tabObj_rel (by decide)))
    simp only [List.map_cons, List.map_nil, toV] at k
    exact k
  have c15 : x = 3 ∧ y = 4 → Calls Tryz.prog 6 #[.int .i64 x, .int .i64 y] W fun e w' => e = .returned (.bool true) ∧ Below W.heap.size W w' := by
    intro hc
    obtain ⟨rfl, rfl⟩ := hc
    have k := vaiL (args := [.int .i64 3, .int .i64 4]) 60 (fun _ => 0) (by kernel_rfl) (by kernel_rfl) (known_ok ty0 ty1 ty2 ty3 ty4) (steps_ok ty0 ty1 ty2 ty3 ty4) (fun _ => ⟨trivial, trivial, trivial⟩) (by rfl) (runC15 ty0 ty1 ty2 ty3 ty4) W (last_heap h) ((((((StartOK.leaf 15 W).set (by unfold keyMax; omega) (by omega) hx0 (tabObj_rel (by decide))).set (by unfold keyMax; omega) (by omega) hx1 (tabObj_rel (by decide))).set (by unfold keyMax; omega) (by omega) hx2 (tabObj_rel (by decide))).set (by unfold keyMax; omega) (by omega) hx3 (tabObj_rel (by decide))).set (by unfold keyMax; omega) (by omega) hx4 (tabObj_rel (by decide)))
    simp only [List.map_cons, List.map_nil, toV] at k
    exact k
  have c16 : x = 4 ∧ y = 1 → Calls Tryz.prog 6 #[.int .i64 x, .int .i64 y] W fun e w' => e = .returned (.bool true) ∧ Below W.heap.size W w' := by
    intro hc
    obtain ⟨rfl, rfl⟩ := hc
    have k := vaiL (args := [.int .i64 4, .int .i64 1]) 60 (fun _ => 0) (by kernel_rfl) (by kernel_rfl) (known_ok ty0 ty1 ty2 ty3 ty4) (steps_ok ty0 ty1 ty2 ty3 ty4) (fun _ => ⟨trivial, trivial, trivial⟩) (by rfl) (runC16 ty0 ty1 ty2 ty3 ty4) W (last_heap h) ((((((StartOK.leaf 15 W).set (by unfold keyMax; omega) (by omega) hx0 (tabObj_rel (by decide))).set (by unfold keyMax; omega) (by omega) hx1 (tabObj_rel (by decide))).set (by unfold keyMax; omega) (by omega) hx2 (tabObj_rel (by decide))).set (by unfold keyMax; omega) (by omega) hx3 (tabObj_rel (by decide))).set (by unfold keyMax; omega) (by omega) hx4 (tabObj_rel (by decide)))
    simp only [List.map_cons, List.map_nil, toV] at k
    exact k
  have c17 : x = 4 ∧ y = 2 → Calls Tryz.prog 6 #[.int .i64 x, .int .i64 y] W fun e w' => e = .returned (.bool true) ∧ Below W.heap.size W w' := by
    intro hc
    obtain ⟨rfl, rfl⟩ := hc
    have k := vaiL (args := [.int .i64 4, .int .i64 2]) 60 (fun _ => 0) (by kernel_rfl) (by kernel_rfl) (known_ok ty0 ty1 ty2 ty3 ty4) (steps_ok ty0 ty1 ty2 ty3 ty4) (fun _ => ⟨trivial, trivial, trivial⟩) (by rfl) (runC17 ty0 ty1 ty2 ty3 ty4) W (last_heap h) ((((((StartOK.leaf 15 W).set (by unfold keyMax; omega) (by omega) hx0 (tabObj_rel (by decide))).set (by unfold keyMax; omega) (by omega) hx1 (tabObj_rel (by decide))).set (by unfold keyMax; omega) (by omega) hx2 (tabObj_rel (by decide))).set (by unfold keyMax; omega) (by omega) hx3 (tabObj_rel (by decide))).set (by unfold keyMax; omega) (by omega) hx4 (tabObj_rel (by decide)))
    simp only [List.map_cons, List.map_nil, toV] at k
    exact k
  have c18 : x = 4 ∧ y = 3 → Calls Tryz.prog 6 #[.int .i64 x, .int .i64 y] W fun e w' => e = .returned (.bool true) ∧ Below W.heap.size W w' := by
    intro hc
    obtain ⟨rfl, rfl⟩ := hc
    have k := vaiL (args := [.int .i64 4, .int .i64 3]) 60 (fun _ => 0) (by kernel_rfl) (by kernel_rfl) (known_ok ty0 ty1 ty2 ty3 ty4) (steps_ok ty0 ty1 ty2 ty3 ty4) (fun _ => ⟨trivial, trivial, trivial⟩) (by rfl) (runC18 ty0 ty1 ty2 ty3 ty4) W (last_heap h) ((((((StartOK.leaf 15 W).set (by unfold keyMax; omega) (by omega) hx0 (tabObj_rel (by decide))).set (by unfold keyMax; omega) (by omega) hx1 (tabObj_rel (by decide))).set (by unfold keyMax; omega) (by omega) hx2 (tabObj_rel (by decide))).set (by unfold keyMax; omega) (by omega) hx3 (tabObj_rel (by decide))).set (by unfold keyMax; omega) (by omega) hx4 (tabObj_rel (by decide)))
    simp only [List.map_cons, List.map_nil, toV] at k
    exact k
  have c19 : x = 4 ∧ y = 4 → Calls Tryz.prog 6 #[.int .i64 x, .int .i64 y] W fun e w' => e = .returned (.bool true) ∧ Below W.heap.size W w' := by
    intro hc
    obtain ⟨rfl, rfl⟩ := hc
    have k := vaiL (args := [.int .i64 4, .int .i64 4]) 60 (fun _ => 0) (by kernel_rfl) (by kernel_rfl) (known_ok ty0 ty1 ty2 ty3 ty4) (steps_ok ty0 ty1 ty2 ty3 ty4) (fun _ => ⟨trivial, trivial, trivial⟩) (by rfl) (runC19 ty0 ty1 ty2 ty3 ty4) W (last_heap h) ((((((StartOK.leaf 15 W).set (by unfold keyMax; omega) (by omega) hx0 (tabObj_rel (by decide))).set (by unfold keyMax; omega) (by omega) hx1 (tabObj_rel (by decide))).set (by unfold keyMax; omega) (by omega) hx2 (tabObj_rel (by decide))).set (by unfold keyMax; omega) (by omega) hx3 (tabObj_rel (by decide))).set (by unfold keyMax; omega) (by omega) hx4 (tabObj_rel (by decide)))
    simp only [List.map_cons, List.map_nil, toV] at k
    exact k
  have c20 : x = 5 ∧ y = 1 → Calls Tryz.prog 6 #[.int .i64 x, .int .i64 y] W fun e w' => e = .returned (.bool true) ∧ Below W.heap.size W w' := by
    intro hc
    obtain ⟨rfl, rfl⟩ := hc
    have k := vaiL (args := [.int .i64 5, .int .i64 1]) 60 (fun _ => 0) (by kernel_rfl) (by kernel_rfl) (known_ok ty0 ty1 ty2 ty3 ty4) (steps_ok ty0 ty1 ty2 ty3 ty4) (fun _ => ⟨trivial, trivial, trivial⟩) (by rfl) (runC20 ty0 ty1 ty2 ty3 ty4) W (last_heap h) ((((((StartOK.leaf 15 W).set (by unfold keyMax; omega) (by omega) hx0 (tabObj_rel (by decide))).set (by unfold keyMax; omega) (by omega) hx1 (tabObj_rel (by decide))).set (by unfold keyMax; omega) (by omega) hx2 (tabObj_rel (by decide))).set (by unfold keyMax; omega) (by omega) hx3 (tabObj_rel (by decide))).set (by unfold keyMax; omega) (by omega) hx4 (tabObj_rel (by decide)))
    simp only [List.map_cons, List.map_nil, toV] at k
    exact k
  have c21 : x = 5 ∧ y = 2 → Calls Tryz.prog 6 #[.int .i64 x, .int .i64 y] W fun e w' => e = .returned (.bool true) ∧ Below W.heap.size W w' := by
    intro hc
    obtain ⟨rfl, rfl⟩ := hc
    have k := vaiL (args := [.int .i64 5, .int .i64 2]) 60 (fun _ => 0) (by kernel_rfl) (by kernel_rfl) (known_ok ty0 ty1 ty2 ty3 ty4) (steps_ok ty0 ty1 ty2 ty3 ty4) (fun _ => ⟨trivial, trivial, trivial⟩) (by rfl) (runC21 ty0 ty1 ty2 ty3 ty4) W (last_heap h) ((((((StartOK.leaf 15 W).set (by unfold keyMax; omega) (by omega) hx0 (tabObj_rel (by decide))).set (by unfold keyMax; omega) (by omega) hx1 (tabObj_rel (by decide))).set (by unfold keyMax; omega) (by omega) hx2 (tabObj_rel (by decide))).set (by unfold keyMax; omega) (by omega) hx3 (tabObj_rel (by decide))).set (by unfold keyMax; omega) (by omega) hx4 (tabObj_rel (by decide)))
    simp only [List.map_cons, List.map_nil, toV] at k
    exact k
  have c22 : x = 5 ∧ y = 3 → Calls Tryz.prog 6 #[.int .i64 x, .int .i64 y] W fun e w' => e = .returned (.bool true) ∧ Below W.heap.size W w' := by
    intro hc
    obtain ⟨rfl, rfl⟩ := hc
    have k := vaiL (args := [.int .i64 5, .int .i64 3]) 60 (fun _ => 0) (by kernel_rfl) (by kernel_rfl) (known_ok ty0 ty1 ty2 ty3 ty4) (steps_ok ty0 ty1 ty2 ty3 ty4) (fun _ => ⟨trivial, trivial, trivial⟩) (by rfl) (runC22 ty0 ty1 ty2 ty3 ty4) W (last_heap h) ((((((StartOK.leaf 15 W).set (by unfold keyMax; omega) (by omega) hx0 (tabObj_rel (by decide))).set (by unfold keyMax; omega) (by omega) hx1 (tabObj_rel (by decide))).set (by unfold keyMax; omega) (by omega) hx2 (tabObj_rel (by decide))).set (by unfold keyMax; omega) (by omega) hx3 (tabObj_rel (by decide))).set (by unfold keyMax; omega) (by omega) hx4 (tabObj_rel (by decide)))
    simp only [List.map_cons, List.map_nil, toV] at k
    exact k
  have c23 : x = 5 ∧ y = 4 → Calls Tryz.prog 6 #[.int .i64 x, .int .i64 y] W fun e w' => e = .returned (.bool true) ∧ Below W.heap.size W w' := by
    intro hc
    obtain ⟨rfl, rfl⟩ := hc
    have k := vaiL (args := [.int .i64 5, .int .i64 4]) 60 (fun _ => 0) (by kernel_rfl) (by kernel_rfl) (known_ok ty0 ty1 ty2 ty3 ty4) (steps_ok ty0 ty1 ty2 ty3 ty4) (fun _ => ⟨trivial, trivial, trivial⟩) (by rfl) (runC23 ty0 ty1 ty2 ty3 ty4) W (last_heap h) ((((((StartOK.leaf 15 W).set (by unfold keyMax; omega) (by omega) hx0 (tabObj_rel (by decide))).set (by unfold keyMax; omega) (by omega) hx1 (tabObj_rel (by decide))).set (by unfold keyMax; omega) (by omega) hx2 (tabObj_rel (by decide))).set (by unfold keyMax; omega) (by omega) hx3 (tabObj_rel (by decide))).set (by unfold keyMax; omega) (by omega) hx4 (tabObj_rel (by decide)))
    simp only [List.map_cons, List.map_nil, toV] at k
    exact k
  have c24 : x = 6 ∧ y = 1 → Calls Tryz.prog 6 #[.int .i64 x, .int .i64 y] W fun e w' => e = .returned (.bool true) ∧ Below W.heap.size W w' := by
    intro hc
    obtain ⟨rfl, rfl⟩ := hc
    have k := vaiL (args := [.int .i64 6, .int .i64 1]) 60 (fun _ => 0) (by kernel_rfl) (by kernel_rfl) (known_ok ty0 ty1 ty2 ty3 ty4) (steps_ok ty0 ty1 ty2 ty3 ty4) (fun _ => ⟨trivial, trivial, trivial⟩) (by rfl) (runC24 ty0 ty1 ty2 ty3 ty4) W (last_heap h) ((((((StartOK.leaf 15 W).set (by unfold keyMax; omega) (by omega) hx0 (tabObj_rel (by decide))).set (by unfold keyMax; omega) (by omega) hx1 (tabObj_rel (by decide))).set (by unfold keyMax; omega) (by omega) hx2 (tabObj_rel (by decide))).set (by unfold keyMax; omega) (by omega) hx3 (tabObj_rel (by decide))).set (by unfold keyMax; omega) (by omega) hx4 (tabObj_rel (by decide)))
    simp only [List.map_cons, List.map_nil, toV] at k
    exact k
  have c25 : x = 6 ∧ y = 2 → Calls Tryz.prog 6 #[.int .i64 x, .int .i64 y] W fun e w' => e = .returned (.bool true) ∧ Below W.heap.size W w' := by
    intro hc
    obtain ⟨rfl, rfl⟩ := hc
    have k := vaiL (args := [.int .i64 6, .int .i64 2]) 60 (fun _ => 0) (by kernel_rfl) (by kernel_rfl) (known_ok ty0 ty1 ty2 ty3 ty4) (steps_ok ty0 ty1 ty2 ty3 ty4) (fun _ => ⟨trivial, trivial, trivial⟩) (by rfl) (runC25 ty0 ty1 ty2 ty3 ty4) W (last_heap h) ((((((StartOK.leaf 15 W).set (by unfold keyMax; omega) (by omega) hx0 (tabObj_rel (by decide))).set (by unfold keyMax; omega) (by omega) hx1 (tabObj_rel (by decide))).set (by unfold keyMax; omega) (by omega) hx2 (tabObj_rel (by decide))).set (by unfold keyMax; omega) (by omega) hx3 (tabObj_rel (by decide))).set (by unfold keyMax; omega) (by omega) hx4 (tabObj_rel (by decide)))
    simp only [List.map_cons, List.map_nil, toV] at k
    exact k
  have c26 : x = 6 ∧ y = 3 → Calls Tryz.prog 6 #[.int .i64 x, .int .i64 y] W fun e w' => e = .returned (.bool true) ∧ Below W.heap.size W w' := by
    intro hc
    obtain ⟨rfl, rfl⟩ := hc
    have k := vaiL (args := [.int .i64 6, .int .i64 3]) 60 (fun _ => 0) (by kernel_rfl) (by kernel_rfl) (known_ok ty0 ty1 ty2 ty3 ty4) (steps_ok ty0 ty1 ty2 ty3 ty4) (fun _ => ⟨trivial, trivial, trivial⟩) (by rfl) (runC26 ty0 ty1 ty2 ty3 ty4) W (last_heap h) ((((((StartOK.leaf 15 W).set (by unfold keyMax; omega) (by omega) hx0 (tabObj_rel (by decide))).set (by unfold keyMax; omega) (by omega) hx1 (tabObj_rel (by decide))).set (by unfold keyMax; omega) (by omega) hx2 (tabObj_rel (by decide))).set (by unfold keyMax; omega) (by omega) hx3 (tabObj_rel (by decide))).set (by unfold keyMax; omega) (by omega) hx4 (tabObj_rel (by decide)))
    simp only [List.map_cons, List.map_nil, toV] at k
    exact k
  have c27 : x = 6 ∧ y = 4 → Calls Tryz.prog 6 #[.int .i64 x, .int .i64 y] W fun e w' => e = .returned (.bool true) ∧ Below W.heap.size W w' := by
    intro hc
    obtain ⟨rfl, rfl⟩ := hc
    have k := vaiL (args := [.int .i64 6, .int .i64 4]) 60 (fun _ => 0) (by kernel_rfl) (by kernel_rfl) (known_ok ty0 ty1 ty2 ty3 ty4) (steps_ok ty0 ty1 ty2 ty3 ty4) (fun _ => ⟨trivial, trivial, trivial⟩) (by rfl) (runC27 ty0 ty1 ty2 ty3 ty4) W (last_heap h) ((((((StartOK.leaf 15 W).set (by unfold keyMax; omega) (by omega) hx0 (tabObj_rel (by decide))).set (by unfold keyMax; omega) (by omega) hx1 (tabObj_rel (by decide))).set (by unfold keyMax; omega) (by omega) hx2 (tabObj_rel (by decide))).set (by unfold keyMax; omega) (by omega) hx3 (tabObj_rel (by decide))).set (by unfold keyMax; omega) (by omega) hx4 (tabObj_rel (by decide)))
    simp only [List.map_cons, List.map_nil, toV] at k
    exact k
  have c28 : x = 7 ∧ y = 1 → Calls Tryz.prog 6 #[.int .i64 x, .int .i64 y] W fun e w' => e = .returned (.bool true) ∧ Below W.heap.size W w' := by
    intro hc
    obtain ⟨rfl, rfl⟩ := hc
    have k := vaiL (args := [.int .i64 7, .int .i64 1]) 60 (fun _ => 0) (by kernel_rfl) (by kernel_rfl) (known_ok ty0 ty1 ty2 ty3 ty4) (steps_ok ty0 ty1 ty2 ty3 ty4) (fun _ => ⟨trivial, trivial, trivial⟩) (by rfl) (runC28 ty0 ty1 ty2 ty3 ty4) W (last_heap h) ((((((StartOK.leaf 15 W).set (by unfold keyMax; omega) (by omega) hx0 (tabObj_rel (by decide))).set (by unfold keyMax; omega) (by omega) hx1 (tabObj_rel (by decide))).set (by unfold keyMax; omega) (by omega) hx2 (tabObj_rel (by decide))).set (by unfold keyMax; omega) (by omega) hx3 (tabObj_rel (by decide))).set (by unfold keyMax; omega) (by omega) hx4 (tabObj_rel (by decide)))
    simp only [List.map_cons, List.map_nil, toV] at k
    exact k
  have c29 : x = 7 ∧ y = 2 → Calls Tryz.prog 6 #[.int .i64 x, .int .i64 y] W fun e w' => e = .returned (.bool true) ∧ Below W.heap.size W w' := by
    intro hc
    obtain ⟨rfl, rfl⟩ := hc
    have k := vaiL (args := [.int .i64 7, .int .i64 2]) 60 (fun _ => 0) (by kernel_rfl) (by kernel_rfl) (known_ok ty0 ty1 ty2 ty3 ty4) (steps_ok ty0 ty1 ty2 ty3 ty4) (fun _ => ⟨trivial, trivial, trivial⟩) (by rfl) (runC29 ty0 ty1 ty2 ty3 ty4) W (last_heap h) ((((((StartOK.leaf 15 W).set (by unfold keyMax; omega) (by omega) hx0 (tabObj_rel (by decide))).set (by unfold keyMax; omega) (by omega) hx1 (tabObj_rel (by decide))).set (by unfold keyMax; omega) (by omega) hx2 (tabObj_rel (by decide))).set (by unfold keyMax; omega) (by omega) hx3 (tabObj_rel (by decide))).set (by unfold keyMax; omega) (by omega) hx4 (tabObj_rel (by decide)))
    simp only [List.map_cons, List.map_nil, toV] at k
    exact k
  have c30 : x = 7 ∧ y = 3 → Calls Tryz.prog 6 #[.int .i64 x, .int .i64 y] W fun e w' => e = .returned (.bool true) ∧ Below W.heap.size W w' := by
    intro hc
    obtain ⟨rfl, rfl⟩ := hc
    have k := vaiL (args := [.int .i64 7, .int .i64 3]) 60 (fun _ => 0) (by kernel_rfl) (by kernel_rfl) (known_ok ty0 ty1 ty2 ty3 ty4) (steps_ok ty0 ty1 ty2 ty3 ty4) (fun _ => ⟨trivial, trivial, trivial⟩) (by rfl) (runC30 ty0 ty1 ty2 ty3 ty4) W (last_heap h) ((((((StartOK.leaf 15 W).set (by unfold keyMax; omega) (by omega) hx0 (tabObj_rel (by decide))).set (by unfold keyMax; omega) (by omega) hx1 (tabObj_rel (by decide))).set (by unfold keyMax; omega) (by omega) hx2 (tabObj_rel (by decide))).set (by unfold keyMax; omega) (by omega) hx3 (tabObj_rel (by decide))).set (by unfold keyMax; omega) (by omega) hx4 (tabObj_rel (by decide)))
    simp only [List.map_cons, List.map_nil, toV] at k
    exact k
  have c31 : x = 7 ∧ y = 4 → Calls Tryz.prog 6 #[.int .i64 x, .int .i64 y] W fun e w' => e = .returned (.bool true) ∧ Below W.heap.size W w' := by
    intro hc
    obtain ⟨rfl, rfl⟩ := hc
    have k := vaiL (args := [.int .i64 7, .int .i64 4]) 60 (fun _ => 0) (by kernel_rfl) (by kernel_rfl) (known_ok ty0 ty1 ty2 ty3 ty4) (steps_ok ty0 ty1 ty2 ty3 ty4) (fun _ => ⟨trivial, trivial, trivial⟩) (by rfl) (runC31 ty0 ty1 ty2 ty3 ty4) W (last_heap h) ((((((StartOK.leaf 15 W).set (by unfold keyMax; omega) (by omega) hx0 (tabObj_rel (by decide))).set (by unfold keyMax; omega) (by omega) hx1 (tabObj_rel (by decide))).set (by unfold keyMax; omega) (by omega) hx2 (tabObj_rel (by decide))).set (by unfold keyMax; omega) (by omega) hx3 (tabObj_rel (by decide))).set (by unfold keyMax; omega) (by omega) hx4 (tabObj_rel (by decide)))
    simp only [List.map_cons, List.map_nil, toV] at k
    exact k
  by_cases h1 : x ≤ 0
  · exact c0 h1
  by_cases h2 : 8 ≤ x
  · exact c1 h2
  by_cases h3 : y ≤ 0
  · exact c2 ⟨by omega, h3⟩
  by_cases h4 : 5 ≤ y
  · exact c3 ⟨by omega, h4⟩
  have d1 : x = 1 ∨ x = 2 ∨ x = 3 ∨ x = 4 ∨ x = 5 ∨ x = 6 ∨ x = 7 := by omega
  have d2 : y = 1 ∨ y = 2 ∨ y = 3 ∨ y = 4 := by omega
  rcases d1 with d1 | d1 | d1 | d1 | d1 | d1 | d1 <;> rcases d2 with d2 | d2 | d2 | d2
  · exact c4 ⟨d1, d2⟩
  · exact c5 ⟨d1, d2⟩
  · exact c6 ⟨d1, d2⟩
  · exact c7 ⟨d1, d2⟩
  · exact c8 ⟨d1, d2⟩
  · exact c9 ⟨d1, d2⟩
  · exact c10 ⟨d1, d2⟩
  · exact c11 ⟨d1, d2⟩
  · exact c12 ⟨d1, d2⟩
  · exact c13 ⟨d1, d2⟩
  · exact c14 ⟨d1, d2⟩
  · exact c15 ⟨d1, d2⟩
  · exact c16 ⟨d1, d2⟩
  · exact c17 ⟨d1, d2⟩
  · exact c18 ⟨d1, d2⟩
  · exact c19 ⟨d1, d2⟩
  · exact c20 ⟨d1, d2⟩
  · exact c21 ⟨d1, d2⟩
  · exact c22 ⟨d1, d2⟩
  · exact c23 ⟨d1, d2⟩
  · exact c24 ⟨d1, d2⟩
  · exact c25 ⟨d1, d2⟩
  · exact c26 ⟨d1, d2⟩
  · exact c27 ⟨d1, d2⟩
  · exact c28 ⟨d1, d2⟩
  · exact c29 ⟨d1, d2⟩
  · exact c30 ⟨d1, d2⟩
  · exact c31 ⟨d1, d2⟩

set_option maxHeartbeats 1000000 in
theorem lifted (os : Os) (started : os.Started) (H : Type) (enc : TypeId × Value → H) :
    ReturnsInHanded {} Tryz.checked os 6 .any (fun w args => (Rows.clusterOpensSpec.pre enc Tryz.prog Tryz.f6 Rows.clusterOpensRow.domain false w args ∧ laidMetH Tryz.prog Rows.clusterOpensRow.laid w) ∧ sizedMet enc Tryz.prog Tryz.f6 (OpenSpec.ofChange Rows.clusterOpensSpec) false w args)
      (Rows.clusterOpensSpec.post enc Tryz.prog Tryz.f6 false true false false) := by
  refine returnsInHanded_of_change_and (C := Tryz.checked) (X := fun w _ => laidMetH Tryz.prog Rows.clusterOpensRow.laid w) (fun _ _ _ hh h => h.of_heap hh) own started (by kernel_rfl) Tryz.func6
    (ChangeSpec.witness_shaped (enc := enc) (C := Tryz.checked) (os := os) (X := fun w _ => laidMetH Tryz.prog Rows.clusterOpensRow.laid w) false (World.laidAll Tryz.prog os Rows.clusterOpensRow.laid) wargs 8 (World.laidAll_os _ _ _)
      (shaped os) (wide os) (preB_ok os H enc) (sizedB_ok os H enc)
      (by rw [MakeChecks.laidMetH_plain _ _ _ (by kernel_rfl)]; exact laidMet_laidAll _ (fits os) (ifaces os))) ?_
  intro W base args ds gs before hval0 hW hc _ hL _
  have hW' := hW
  obtain ⟨p, q, hA0, hV, rfl, _, _⟩ := hW
  have hA : DataW.TrodAll enc Tryz.prog W 0 (fun _ => true) true Tryz.f6.params.toList args.toList ds p := hA0
  rw [Tryz.params6] at hA
  obtain ⟨v, vs, d, ds', p1, p2, e1, rfl, rfl, hd, hr⟩ := trodAll_cons hA
  obtain ⟨u, us, d2, ds2, p3, p4, e2, rfl, rfl, hd2, hr2⟩ := trodAll_cons hr
  obtain ⟨rfl, rfl, rfl⟩ := trodAll_nil hr2
  subst e2
  obtain rfl : args = #[v, u] := by apply Array.ext'; simpa using e1
  obtain ⟨x, rfl, rfl, rfl, wx⟩ := open_int Tryz.underlying3 (hval0 0 3 v (by rw [Tryz.params6]; rfl) rfl) hd
  obtain ⟨y, rfl, rfl, rfl, wy⟩ := open_int Tryz.underlying3 (hval0 1 3 u (by rw [Tryz.params6]; rfl) rfl) hd2
  have bx := bounds_i64 wx
  have by' := bounds_i64 wy
  obtain ⟨rfl, rfl⟩ := trodVars_none hV
  refine (walk W hL x y bx by').mono fun e W' ⟨he, bel⟩ => ?_
  subst he
  exact ⟨_, rfl, _, _, _, [], _, [], hW', trodAll_mk1 (shut_bool Tryz.underlying4 _), (by rw [Tryz.params6]; exact trodAll_cons_mk (shut_int Tryz.underlying3 wx) (trodAll_mk1 (shut_int Tryz.underlying3 wy))), rfl, bel.frame _, fun h => by cases h⟩

theorem holds : Rows.ClusterOpensSaid :=
  OpenClaim.holds_of_wide 6 Tryz.f6 rfl rfl rfl rfl rfl rfl rfl ⟨rfl, rfl, rfl, rfl, rfl⟩ rfl rfl rfl rfl rfl named1 Tryz.func6 closed
    (of_decide_eq_true (by kernel_rfl)) wraps
    (fun os started H enc _ => lifted os started H enc)
theorem card_holds : Rows.ClusterOpensCardSaid :=
  Claim7.holds_tied_plain_at .later [] [.pinned, .data, .pinned, .sentinel, .sentinel, .data, .data, .data, .data, .data] true (true, "85834191fb7f19d0224effd3ee3cb4dc345325b28f5b370b7f32c07c566cd774") true holds (fun _ h => by cases h) wfText (fun _ h => by cases h) clusterOpens_row_tie rfl ⟨rfl, rfl⟩ mainIs rfl
    (fun f fn hf hfn => by
      obtain rfl : f = 6 := Option.some.inj (named1.symm.trans hf) |>.symm
      obtain rfl : fn = Tryz.f6 := (Option.some.inj (Tryz.func6.symm.trans hfn)).symm
      exact ⟨looksTo, fun j t ht => by
        rw [Tryz.params6] at ht
        match j, ht with
        | 0, ht =>
          have e : (3 : TypeId) = t := by simpa using ht
          rw [← e]
          exact (by kernel_rfl : Tryz.prog.wantsStandIn 3 = false)
        | 1, ht =>
          have e : (3 : TypeId) = t := by simpa using ht
          rw [← e]
          exact (by kernel_rfl : Tryz.prog.wantsStandIn 3 = false)
        | j + 2, ht => simp at ht⟩)
    goesNot
#print axioms card_holds
end Go.Proofs.YtjkpgkmhkgngpaaGreatDoor.Opens
