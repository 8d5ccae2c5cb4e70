/- A part of the run of the law CanonForms. -/
import Derived.Test.YtfnnfpkbllgeiaaGreatDoorCanonFKn
import Derived.Test.YtfnnfpkbllgeiaaGreatDoorCanonFSt3
namespace Go.Proofs.YtfnnfpkbllgeiaaGreatDoor.CanonF
open Go.Vai
set_option maxRecDepth 100000
theorem run24 (ty0 : TypeId) (ty1 : TypeId) (ty2 : TypeId) (ty3 : TypeId) (ty4 : TypeId) : selfS Tryz.prog 11 100000 [] [s23] 60 s24.f s24.args (hpOf (heap0 ty0 ty1 ty2 ty3 ty4) s24.pre) s24.n (checkK s24) = .ok := by kernel_rfl
theorem ok24 (ty0 : TypeId) (ty1 : TypeId) (ty2 : TypeId) (ty3 : TypeId) (ty4 : TypeId) : s24.ok Tryz.prog 11 (heap0 ty0 ty1 ty2 ty3 ty4) := stepM 60 (by kernel_rfl) (fun _ h => by cases h) (List.forall_mem_cons.2 ⟨ok23 ty0 ty1 ty2 ty3 ty4, fun _ h => by cases h⟩) (by kernel_rfl) (run24 ty0 ty1 ty2 ty3 ty4)
end Go.Proofs.YtfnnfpkbllgeiaaGreatDoor.CanonF
