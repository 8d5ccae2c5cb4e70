/- The closed facts of the row, one by one. -/
import Derived.Test.YtjkpgkmhkgngpaaGreatDoorRows
import Derived.JoinedOf
import Derived.KernelRfl
import Derived.Test.YtjkpgkmhkgngpaaGreatDoorOpensFac0
import Derived.Test.YtjkpgkmhkgngpaaGreatDoorOpensFac1
import Derived.Test.YtjkpgkmhkgngpaaGreatDoorOpensFac2
import Derived.Test.YtjkpgkmhkgngpaaGreatDoorOpensFac3
import GoSem.ClaimSeven
namespace Go.Proofs.YtjkpgkmhkgngpaaGreatDoor.Opens
open Go
set_option maxRecDepth 100000
theorem and2 {a b : Bool} (h : a = true) (k : b = true) : (a && b) = true := by rw [h, k]; rfl
theorem closed : joinedFacts Tryz.prog 6 Tryz.f6 Rows.clusterOpensSpec Rows.clusterOpensRow = true := by
  unfold joinedFacts
  exact (and2 (and2 (and2 (and2 (and2 (and2 (and2 (and2 (and2 (and2 (and2 (and2 (and2 (and2 (and2 (and2 (and2 (and2 (and2 (and2 (and2 (and2 (and2 (and2 (and2 (and2 (and2 (and2 (and2 (and2 (and2 fact1 fact2) fact3) fact4) fact5) fact6) fact7) fact8) fact9) fact10) fact11) fact12) fact13) fact14) fact15) fact16) fact17) fact18) fact19) fact20) fact21) fact22) fact23) fact24) fact25) fact26) fact27) fact28) fact29) fact30) fact31) fact32)
theorem wraps : Tryz.f6.isWrapper Tryz.prog Rows.clusterOpensRow.wrapper Rows.clusterOpensRow.mainSum := by unfold Func.isWrapper; first | (rw [if_pos (by decide +kernel)]; kernel_rfl) | (rw [if_neg (by decide +kernel)]; exact ⟨rfl, rfl⟩)
theorem wfText : Rows.clusterOpensRow.wfByText (OpenSpec.ofChange Rows.clusterOpensSpec) = true := by kernel_rfl
theorem mainIs : Tryz.prog.mainIs = some (true, "85834191fb7f19d0224effd3ee3cb4dc345325b28f5b370b7f32c07c566cd774".toList) := by kernel_rfl
theorem looksTo : true = Tryz.prog.looks [] := by kernel_rfl
theorem goes_none {P : Program} {c : OpenClaim} (hs : c.start = .entering) (h : P.funcs.any Func.goes = false) : false = c.goesBy P := by
  have key : ∀ f, P.goes f = false := by
    intro f
    unfold Program.goes
    rw [h, Bool.and_false, Bool.or_false, List.any_eq_false]
    intro g _
    cases hg : P.funcs[g]? with
    | none => simp
    | some fn =>
      obtain ⟨hlt, e⟩ := Array.getElem?_eq_some_iff.1 hg
      have := Array.any_eq_false.1 h g hlt
      rw [e] at this
      simpa using this
  unfold OpenClaim.goesBy Program.goesAt Program.goesFrom
  rw [hs]
  cases P.funcNamed c.func with
  | none => rfl
  | some f => simp [key f]
theorem noGo : Tryz.prog.funcs.any Func.goes = false := by kernel_rfl
theorem goesNot : false = Rows.clusterOpensRow.goesBy Tryz.prog := goes_none rfl noGo
theorem named1 : Tryz.prog.funcNamed "shortcut/shortcutlaw29.ClusterOpens" = some 6 := by kernel_rfl
end Go.Proofs.YtjkpgkmhkgngpaaGreatDoor.Opens
