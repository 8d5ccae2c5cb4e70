/- The closed facts of the row, one by one. -/
import Derived.Test.YtbpjgmanmmoffaaGreatDoorRows
import Derived.JoinedOf
import Derived.KernelRfl
import Derived.Test.YtbpjgmanmmoffaaGreatDoorStaleFac0
import Derived.Test.YtbpjgmanmmoffaaGreatDoorStaleFac1
import Derived.Test.YtbpjgmanmmoffaaGreatDoorStaleFac2
import Derived.Test.YtbpjgmanmmoffaaGreatDoorStaleFac3
import GoSem.ClaimSeven
namespace Go.Proofs.YtbpjgmanmmoffaaGreatDoor.Stale
open Go
set_option maxRecDepth 100000
theorem and2 {a b : Bool} (h : a = true) (k : b = true) : (a && b) = true := by rw [h, k]; rfl
theorem closed : joinedFacts Tryz.prog 4 Tryz.f4 Rows.topStaleSpec Rows.topStaleRow = true := by
  unfold joinedFacts
  exact (and2 (and2 (and2 (and2 (and2 (and2 (and2 (and2 (and2 (and2 (and2 (and2 (and2 (and2 (and2 (and2 (and2 (and2 (and2 (and2 (and2 (and2 (and2 (and2 (and2 (and2 (and2 (and2 (and2 (and2 (and2 fact1 fact2) fact3) fact4) fact5) fact6) fact7) fact8) fact9) fact10) fact11) fact12) fact13) fact14) fact15) fact16) fact17) fact18) fact19) fact20) fact21) fact22) fact23) fact24) fact25) fact26) fact27) fact28) fact29) fact30) fact31) fact32)
theorem wraps : Tryz.f4.isWrapper Tryz.prog Rows.topStaleRow.wrapper Rows.topStaleRow.mainSum := by unfold Func.isWrapper; first | (rw [if_pos (by decide +kernel)]; kernel_rfl) | (rw [if_neg (by decide +kernel)]; exact ⟨rfl, rfl⟩)
theorem wfText : Rows.topStaleRow.wfByText (OpenSpec.ofChange Rows.topStaleSpec) = true := by kernel_rfl
theorem mainIs : Tryz.prog.mainIs = some (true, "d13c41da5b079c588a310f23cd059119da49595a1174854c3e585bbe7a9ebcbc".toList) := by kernel_rfl
theorem looksTo : true = Tryz.prog.looks [] := by kernel_rfl
theorem goes_none {P : Program} {c : OpenClaim} (hs : c.start = .entering) (h : P.funcs.any Func.goes = false) : false = c.goesBy P := by
  have key : ∀ f, P.goes f = false := by
    intro f
    unfold Program.goes
    rw [h, Bool.and_false, Bool.or_false, List.any_eq_false]
    intro g _
    cases hg : P.funcs[g]? with
    | none => simp
    | some fn =>
      obtain ⟨hlt, e⟩ := Array.getElem?_eq_some_iff.1 hg
      have := Array.any_eq_false.1 h g hlt
      rw [e] at this
      simpa using this
  unfold OpenClaim.goesBy Program.goesAt Program.goesFrom
  rw [hs]
  cases P.funcNamed c.func with
  | none => rfl
  | some f => simp [key f]
theorem noGo : Tryz.prog.funcs.any Func.goes = false := by kernel_rfl
theorem goesNot : false = Rows.topStaleRow.goesBy Tryz.prog := goes_none rfl noGo
theorem named1 : Tryz.prog.funcNamed "shortcut/shortcuttop.TopStale" = some 4 := by kernel_rfl
end Go.Proofs.YtbpjgmanmmoffaaGreatDoor.Stale
