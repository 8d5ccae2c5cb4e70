/- The law ClusterOpens: the steps of its runs. -/
import Derived.Test.YtjkpgkmhkgngpaaGreatDoorOpensKn
namespace Go.Proofs.YtjkpgkmhkgngpaaGreatDoor.Opens
open Go.Vai
set_option maxRecDepth 100000
noncomputable def steps : List Step := []
theorem steps_ok (ty0 : TypeId) (ty1 : TypeId) (ty2 : TypeId) (ty3 : TypeId) (ty4 : TypeId) : ∀ s, s ∈ steps → s.ok Tryz.prog 15 (heap0 ty0 ty1 ty2 ty3 ty4) := fun _ h => by cases h
end Go.Proofs.YtjkpgkmhkgngpaaGreatDoor.Opens
