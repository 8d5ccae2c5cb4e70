/- The closed facts of the row, one by one, part 3. -/
import Derived.Test.YtjkpgkmhkgngpaaGreatDoorRows
import Derived.JoinedOf
import Derived.KernelRfl
import GoSem.ClaimSeven
namespace Go.Proofs.YtjkpgkmhkgngpaaGreatDoor.Opens
open Go
set_option maxRecDepth 100000
theorem fact12 : (fun (P : Program) (f : FuncId) (_fn : Func) (_s : ChangeSpec) (c : OpenClaim) => ((c.recurses == P.recurses f) : Bool)) Tryz.prog 6 Tryz.f6 Rows.clusterOpensSpec Rows.clusterOpensRow = true := by kernel_rfl
theorem fact13 : (fun (P : Program) (f : FuncId) (_fn : Func) (_s : ChangeSpec) (c : OpenClaim) => ((c.named == P.varsNamed f) : Bool)) Tryz.prog 6 Tryz.f6 Rows.clusterOpensSpec Rows.clusterOpensRow = true := by kernel_rfl
end Go.Proofs.YtjkpgkmhkgngpaaGreatDoor.Opens
