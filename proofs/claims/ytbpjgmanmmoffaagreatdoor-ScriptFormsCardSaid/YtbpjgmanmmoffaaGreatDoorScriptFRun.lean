/- The law ScriptForms: its run, in the kernel. -/
import Derived.Test.YtbpjgmanmmoffaaGreatDoorScriptFKn
namespace Go.Proofs.YtbpjgmanmmoffaaGreatDoor.ScriptF
open Go.Vai
set_option maxRecDepth 100000
noncomputable def steps : List Step := []
theorem steps_ok (ty0 : TypeId) (ty1 : TypeId) (ty2 : TypeId) (ty3 : TypeId) (ty4 : TypeId) : ∀ s, s ∈ steps → s.ok Tryz.prog 11 (heap0 ty0 ty1 ty2 ty3 ty4) := fun _ h => by cases h
theorem run (ty0 : TypeId) (ty1 : TypeId) (ty2 : TypeId) (ty3 : TypeId) (ty4 : TypeId) : selfS Tryz.prog 11 100000 known steps 60 3 [] (heap0 ty0 ty1 ty2 ty3 ty4) 11 (same (.bool true)) = .ok := by kernel_rfl
end Go.Proofs.YtbpjgmanmmoffaaGreatDoor.ScriptF
