/- A part of the run of the law CanonForms. -/
import Derived.Test.YtfnnfpkbllgeiaaGreatDoorCanonFKn
import Derived.Test.YtfnnfpkbllgeiaaGreatDoorCanonFSt2
namespace Go.Proofs.YtfnnfpkbllgeiaaGreatDoor.CanonF
open Go.Vai
set_option maxRecDepth 100000
theorem run18 (ty0 : TypeId) (ty1 : TypeId) (ty2 : TypeId) (ty3 : TypeId) (ty4 : TypeId) : selfS Tryz.prog 11 100000 [] [] 60 s18.f s18.args (hpOf (heap0 ty0 ty1 ty2 ty3 ty4) s18.pre) s18.n (checkK s18) = .ok := by kernel_rfl
theorem ok18 (ty0 : TypeId) (ty1 : TypeId) (ty2 : TypeId) (ty3 : TypeId) (ty4 : TypeId) : s18.ok Tryz.prog 11 (heap0 ty0 ty1 ty2 ty3 ty4) := stepM 60 (by kernel_rfl) (fun _ h => by cases h) (fun _ h => by cases h) (by kernel_rfl) (run18 ty0 ty1 ty2 ty3 ty4)
theorem run19 (ty0 : TypeId) (ty1 : TypeId) (ty2 : TypeId) (ty3 : TypeId) (ty4 : TypeId) : selfS Tryz.prog 11 100000 [] [s16, s17, s18] 60 s19.f s19.args (hpOf (heap0 ty0 ty1 ty2 ty3 ty4) s19.pre) s19.n (checkK s19) = .ok := by kernel_rfl
theorem ok19 (ty0 : TypeId) (ty1 : TypeId) (ty2 : TypeId) (ty3 : TypeId) (ty4 : TypeId) : s19.ok Tryz.prog 11 (heap0 ty0 ty1 ty2 ty3 ty4) := stepM 60 (by kernel_rfl) (fun _ h => by cases h) (List.forall_mem_cons.2 ⟨ok16 ty0 ty1 ty2 ty3 ty4, List.forall_mem_cons.2 ⟨ok17 ty0 ty1 ty2 ty3 ty4, List.forall_mem_cons.2 ⟨ok18 ty0 ty1 ty2 ty3 ty4, fun _ h => by cases h⟩⟩⟩) (by kernel_rfl) (run19 ty0 ty1 ty2 ty3 ty4)
theorem run20 (ty0 : TypeId) (ty1 : TypeId) (ty2 : TypeId) (ty3 : TypeId) (ty4 : TypeId) : selfS Tryz.prog 11 100000 [] [] 60 s20.f s20.args (hpOf (heap0 ty0 ty1 ty2 ty3 ty4) s20.pre) s20.n (checkK s20) = .ok := by kernel_rfl
theorem ok20 (ty0 : TypeId) (ty1 : TypeId) (ty2 : TypeId) (ty3 : TypeId) (ty4 : TypeId) : s20.ok Tryz.prog 11 (heap0 ty0 ty1 ty2 ty3 ty4) := stepM 60 (by kernel_rfl) (fun _ h => by cases h) (fun _ h => by cases h) (by kernel_rfl) (run20 ty0 ty1 ty2 ty3 ty4)
theorem run21 (ty0 : TypeId) (ty1 : TypeId) (ty2 : TypeId) (ty3 : TypeId) (ty4 : TypeId) : selfS Tryz.prog 11 100000 [] [s20] 60 s21.f s21.args (hpOf (heap0 ty0 ty1 ty2 ty3 ty4) s21.pre) s21.n (checkK s21) = .ok := by kernel_rfl
theorem ok21 (ty0 : TypeId) (ty1 : TypeId) (ty2 : TypeId) (ty3 : TypeId) (ty4 : TypeId) : s21.ok Tryz.prog 11 (heap0 ty0 ty1 ty2 ty3 ty4) := stepM 60 (by kernel_rfl) (fun _ h => by cases h) (List.forall_mem_cons.2 ⟨ok20 ty0 ty1 ty2 ty3 ty4, fun _ h => by cases h⟩) (by kernel_rfl) (run21 ty0 ty1 ty2 ty3 ty4)
theorem run22 (ty0 : TypeId) (ty1 : TypeId) (ty2 : TypeId) (ty3 : TypeId) (ty4 : TypeId) : selfS Tryz.prog 11 100000 [] [s19, s21] 60 s22.f s22.args (hpOf (heap0 ty0 ty1 ty2 ty3 ty4) s22.pre) s22.n (checkK s22) = .ok := by kernel_rfl
theorem ok22 (ty0 : TypeId) (ty1 : TypeId) (ty2 : TypeId) (ty3 : TypeId) (ty4 : TypeId) : s22.ok Tryz.prog 11 (heap0 ty0 ty1 ty2 ty3 ty4) := stepM 60 (by kernel_rfl) (fun _ h => by cases h) (List.forall_mem_cons.2 ⟨ok19 ty0 ty1 ty2 ty3 ty4, List.forall_mem_cons.2 ⟨ok21 ty0 ty1 ty2 ty3 ty4, fun _ h => by cases h⟩⟩) (by kernel_rfl) (run22 ty0 ty1 ty2 ty3 ty4)
theorem run23 (ty0 : TypeId) (ty1 : TypeId) (ty2 : TypeId) (ty3 : TypeId) (ty4 : TypeId) : selfS Tryz.prog 11 100000 [] [] 60 s23.f s23.args (hpOf (heap0 ty0 ty1 ty2 ty3 ty4) s23.pre) s23.n (checkK s23) = .ok := by kernel_rfl
theorem ok23 (ty0 : TypeId) (ty1 : TypeId) (ty2 : TypeId) (ty3 : TypeId) (ty4 : TypeId) : s23.ok Tryz.prog 11 (heap0 ty0 ty1 ty2 ty3 ty4) := stepM 60 (by kernel_rfl) (fun _ h => by cases h) (fun _ h => by cases h) (by kernel_rfl) (run23 ty0 ty1 ty2 ty3 ty4)
end Go.Proofs.YtfnnfpkbllgeiaaGreatDoor.CanonF
