/- The law CanonForms: its run, in the kernel. -/
import Derived.Test.YtfnnfpkbllgeiaaGreatDoorCanonFSt0
import Derived.Test.YtfnnfpkbllgeiaaGreatDoorCanonFSt1
import Derived.Test.YtfnnfpkbllgeiaaGreatDoorCanonFSt2
import Derived.Test.YtfnnfpkbllgeiaaGreatDoorCanonFSt3
import Derived.Test.YtfnnfpkbllgeiaaGreatDoorCanonFSt4
namespace Go.Proofs.YtfnnfpkbllgeiaaGreatDoor.CanonF
open Go.Vai
set_option maxRecDepth 100000
noncomputable def steps : List Step := [s0, s1, s2, s3, s4, s5, s6, s7, s8, s9, s10, s11, s12, s13, s14, s15, s22, s24]
theorem steps_ok (ty0 : TypeId) (ty1 : TypeId) (ty2 : TypeId) (ty3 : TypeId) (ty4 : TypeId) : ∀ s, s ∈ steps → s.ok Tryz.prog 11 (heap0 ty0 ty1 ty2 ty3 ty4) := List.forall_mem_cons.2 ⟨ok0 ty0 ty1 ty2 ty3 ty4, List.forall_mem_cons.2 ⟨ok1 ty0 ty1 ty2 ty3 ty4, List.forall_mem_cons.2 ⟨ok2 ty0 ty1 ty2 ty3 ty4, List.forall_mem_cons.2 ⟨ok3 ty0 ty1 ty2 ty3 ty4, List.forall_mem_cons.2 ⟨ok4 ty0 ty1 ty2 ty3 ty4, List.forall_mem_cons.2 ⟨ok5 ty0 ty1 ty2 ty3 ty4, List.forall_mem_cons.2 ⟨ok6 ty0 ty1 ty2 ty3 ty4, List.forall_mem_cons.2 ⟨ok7 ty0 ty1 ty2 ty3 ty4, List.forall_mem_cons.2 ⟨ok8 ty0 ty1 ty2 ty3 ty4, List.forall_mem_cons.2 ⟨ok9 ty0 ty1 ty2 ty3 ty4, List.forall_mem_cons.2 ⟨ok10 ty0 ty1 ty2 ty3 ty4, List.forall_mem_cons.2 ⟨ok11 ty0 ty1 ty2 ty3 ty4, List.forall_mem_cons.2 ⟨ok12 ty0 ty1 ty2 ty3 ty4, List.forall_mem_cons.2 ⟨ok13 ty0 ty1 ty2 ty3 ty4, List.forall_mem_cons.2 ⟨ok14 ty0 ty1 ty2 ty3 ty4, List.forall_mem_cons.2 ⟨ok15 ty0 ty1 ty2 ty3 ty4, List.forall_mem_cons.2 ⟨ok22 ty0 ty1 ty2 ty3 ty4, List.forall_mem_cons.2 ⟨ok24 ty0 ty1 ty2 ty3 ty4, fun _ h => by cases h⟩⟩⟩⟩⟩⟩⟩⟩⟩⟩⟩⟩⟩⟩⟩⟩⟩⟩
theorem run (ty0 : TypeId) (ty1 : TypeId) (ty2 : TypeId) (ty3 : TypeId) (ty4 : TypeId) : selfS Tryz.prog 11 100000 [] steps 60 4 [] (heap0 ty0 ty1 ty2 ty3 ty4) 11 (same (.bool true)) = .ok := by kernel_rfl
end Go.Proofs.YtfnnfpkbllgeiaaGreatDoor.CanonF
