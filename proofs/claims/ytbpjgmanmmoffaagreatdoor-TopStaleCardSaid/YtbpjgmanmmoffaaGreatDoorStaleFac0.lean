/- The closed facts of the row, one by one, part 1. -/
import Derived.Test.YtbpjgmanmmoffaaGreatDoorRows
import Derived.JoinedOf
import Derived.KernelRfl
import GoSem.ClaimSeven
namespace Go.Proofs.YtbpjgmanmmoffaaGreatDoor.Stale
open Go
set_option maxRecDepth 100000
theorem fact1 : (fun (_P : Program) (_f : FuncId) (_fn : Func) (s : ChangeSpec) (c : OpenClaim) => (c.wf (OpenSpec.ofChange s) : Bool)) Tryz.prog 4 Tryz.f4 Rows.topStaleSpec Rows.topStaleRow = true := by kernel_rfl
theorem fact2 : (fun (P : Program) (_f : FuncId) (_fn : Func) (_s : ChangeSpec) (_c : OpenClaim) => (laidOutB P : Bool)) Tryz.prog 4 Tryz.f4 Rows.topStaleSpec Rows.topStaleRow = true := by kernel_rfl
theorem fact3 : (fun (P : Program) (_f : FuncId) (_fn : Func) (_s : ChangeSpec) (_c : OpenClaim) => (mapsRowed P : Bool)) Tryz.prog 4 Tryz.f4 Rows.topStaleSpec Rows.topStaleRow = true := by kernel_rfl
theorem fact4 : (fun (P : Program) (_f : FuncId) (fn : Func) (_s : ChangeSpec) (_c : OpenClaim) => (fn.params.all (P.readableRec ·) : Bool)) Tryz.prog 4 Tryz.f4 Rows.topStaleSpec Rows.topStaleRow = true := by kernel_rfl
theorem fact5 : (fun (P : Program) (_f : FuncId) (_fn : Func) (s : ChangeSpec) (c : OpenClaim) => (namedTie P c.named s.vars : Bool)) Tryz.prog 4 Tryz.f4 Rows.topStaleSpec Rows.topStaleRow = true := by kernel_rfl
theorem fact6 : (fun (_P : Program) (_f : FuncId) (_fn : Func) (_s : ChangeSpec) (c : OpenClaim) => ((c.stops == []) : Bool)) Tryz.prog 4 Tryz.f4 Rows.topStaleSpec Rows.topStaleRow = true := by kernel_rfl
theorem fact7 : (fun (P : Program) (_f : FuncId) (_fn : Func) (_s : ChangeSpec) (_c : OpenClaim) => ((P.stops == []) : Bool)) Tryz.prog 4 Tryz.f4 Rows.topStaleSpec Rows.topStaleRow = true := by kernel_rfl
theorem fact8 : (fun (_P : Program) (_f : FuncId) (_fn : Func) (_s : ChangeSpec) (c : OpenClaim) => ((c.knobs == []) : Bool)) Tryz.prog 4 Tryz.f4 Rows.topStaleSpec Rows.topStaleRow = true := by kernel_rfl
theorem fact9 : (fun (P : Program) (_f : FuncId) (_fn : Func) (_s : ChangeSpec) (_c : OpenClaim) => ((P.stopKnobs == []) : Bool)) Tryz.prog 4 Tryz.f4 Rows.topStaleSpec Rows.topStaleRow = true := by kernel_rfl
end Go.Proofs.YtbpjgmanmmoffaaGreatDoor.Stale
