/- The law TopStale: its run, in the kernel. -/
import Derived.Test.YtbpjgmanmmoffaaGreatDoorStaleSt0
import Derived.Test.YtbpjgmanmmoffaaGreatDoorStaleSt1
import Derived.Test.YtbpjgmanmmoffaaGreatDoorStaleSt2
namespace Go.Proofs.YtbpjgmanmmoffaaGreatDoor.Stale
open Go.Vai
set_option maxRecDepth 100000
noncomputable def steps : List Step := [s4, s6, s7, s8, s9, s10, s11, s12, s13, s14]
theorem steps_ok (ty0 : TypeId) (ty1 : TypeId) (ty2 : TypeId) (ty3 : TypeId) (ty4 : TypeId) : ∀ s, s ∈ steps → s.ok Tryz.prog 11 (heap0 ty0 ty1 ty2 ty3 ty4) := List.forall_mem_cons.2 ⟨ok4 ty0 ty1 ty2 ty3 ty4, List.forall_mem_cons.2 ⟨ok6 ty0 ty1 ty2 ty3 ty4, List.forall_mem_cons.2 ⟨ok7 ty0 ty1 ty2 ty3 ty4, List.forall_mem_cons.2 ⟨ok8 ty0 ty1 ty2 ty3 ty4, List.forall_mem_cons.2 ⟨ok9 ty0 ty1 ty2 ty3 ty4, List.forall_mem_cons.2 ⟨ok10 ty0 ty1 ty2 ty3 ty4, List.forall_mem_cons.2 ⟨ok11 ty0 ty1 ty2 ty3 ty4, List.forall_mem_cons.2 ⟨ok12 ty0 ty1 ty2 ty3 ty4, List.forall_mem_cons.2 ⟨ok13 ty0 ty1 ty2 ty3 ty4, List.forall_mem_cons.2 ⟨ok14 ty0 ty1 ty2 ty3 ty4, fun _ h => by cases h⟩⟩⟩⟩⟩⟩⟩⟩⟩⟩
theorem runC0 (ty0 : TypeId) (ty1 : TypeId) (ty2 : TypeId) (ty3 : TypeId) (ty4 : TypeId) : selfS Tryz.prog 11 100000 known steps 60 4 [.bool true] (heap0 ty0 ty1 ty2 ty3 ty4) 11 (same (.bool true)) = .ok := by kernel_rfl
theorem runC1 (ty0 : TypeId) (ty1 : TypeId) (ty2 : TypeId) (ty3 : TypeId) (ty4 : TypeId) : selfS Tryz.prog 11 100000 known steps 60 4 [.bool false] (heap0 ty0 ty1 ty2 ty3 ty4) 11 (same (.bool true)) = .ok := by kernel_rfl
end Go.Proofs.YtbpjgmanmmoffaaGreatDoor.Stale
