/- A part of the run of the law CanonForms. -/
import Derived.Test.YtfnnfpkbllgeiaaGreatDoorCanonFKn
namespace Go.Proofs.YtfnnfpkbllgeiaaGreatDoor.CanonF
open Go.Vai
set_option maxRecDepth 100000
theorem run12 (ty0 : TypeId) (ty1 : TypeId) (ty2 : TypeId) (ty3 : TypeId) (ty4 : TypeId) : selfS Tryz.prog 11 100000 [] [] 60 s12.f s12.args (hpOf (heap0 ty0 ty1 ty2 ty3 ty4) s12.pre) s12.n (checkK s12) = .ok := by kernel_rfl
theorem ok12 (ty0 : TypeId) (ty1 : TypeId) (ty2 : TypeId) (ty3 : TypeId) (ty4 : TypeId) : s12.ok Tryz.prog 11 (heap0 ty0 ty1 ty2 ty3 ty4) := stepM 60 (by kernel_rfl) (fun _ h => by cases h) (fun _ h => by cases h) (by kernel_rfl) (run12 ty0 ty1 ty2 ty3 ty4)
theorem run13 (ty0 : TypeId) (ty1 : TypeId) (ty2 : TypeId) (ty3 : TypeId) (ty4 : TypeId) : selfS Tryz.prog 11 100000 [] [] 60 s13.f s13.args (hpOf (heap0 ty0 ty1 ty2 ty3 ty4) s13.pre) s13.n (checkK s13) = .ok := by kernel_rfl
theorem ok13 (ty0 : TypeId) (ty1 : TypeId) (ty2 : TypeId) (ty3 : TypeId) (ty4 : TypeId) : s13.ok Tryz.prog 11 (heap0 ty0 ty1 ty2 ty3 ty4) := stepM 60 (by kernel_rfl) (fun _ h => by cases h) (fun _ h => by cases h) (by kernel_rfl) (run13 ty0 ty1 ty2 ty3 ty4)
theorem run14 (ty0 : TypeId) (ty1 : TypeId) (ty2 : TypeId) (ty3 : TypeId) (ty4 : TypeId) : selfS Tryz.prog 11 100000 [] [] 60 s14.f s14.args (hpOf (heap0 ty0 ty1 ty2 ty3 ty4) s14.pre) s14.n (checkK s14) = .ok := by kernel_rfl
theorem ok14 (ty0 : TypeId) (ty1 : TypeId) (ty2 : TypeId) (ty3 : TypeId) (ty4 : TypeId) : s14.ok Tryz.prog 11 (heap0 ty0 ty1 ty2 ty3 ty4) := stepM 60 (by kernel_rfl) (fun _ h => by cases h) (fun _ h => by cases h) (by kernel_rfl) (run14 ty0 ty1 ty2 ty3 ty4)
theorem run15 (ty0 : TypeId) (ty1 : TypeId) (ty2 : TypeId) (ty3 : TypeId) (ty4 : TypeId) : selfS Tryz.prog 11 100000 [] [] 60 s15.f s15.args (hpOf (heap0 ty0 ty1 ty2 ty3 ty4) s15.pre) s15.n (checkK s15) = .ok := by kernel_rfl
theorem ok15 (ty0 : TypeId) (ty1 : TypeId) (ty2 : TypeId) (ty3 : TypeId) (ty4 : TypeId) : s15.ok Tryz.prog 11 (heap0 ty0 ty1 ty2 ty3 ty4) := stepM 60 (by kernel_rfl) (fun _ h => by cases h) (fun _ h => by cases h) (by kernel_rfl) (run15 ty0 ty1 ty2 ty3 ty4)
theorem run16 (ty0 : TypeId) (ty1 : TypeId) (ty2 : TypeId) (ty3 : TypeId) (ty4 : TypeId) : selfS Tryz.prog 11 100000 [] [] 60 s16.f s16.args (hpOf (heap0 ty0 ty1 ty2 ty3 ty4) s16.pre) s16.n (checkK s16) = .ok := by kernel_rfl
theorem ok16 (ty0 : TypeId) (ty1 : TypeId) (ty2 : TypeId) (ty3 : TypeId) (ty4 : TypeId) : s16.ok Tryz.prog 11 (heap0 ty0 ty1 ty2 ty3 ty4) := stepM 60 (by kernel_rfl) (fun _ h => by cases h) (fun _ h => by cases h) (by kernel_rfl) (run16 ty0 ty1 ty2 ty3 ty4)
theorem run17 (ty0 : TypeId) (ty1 : TypeId) (ty2 : TypeId) (ty3 : TypeId) (ty4 : TypeId) : selfS Tryz.prog 11 100000 [] [] 60 s17.f s17.args (hpOf (heap0 ty0 ty1 ty2 ty3 ty4) s17.pre) s17.n (checkK s17) = .ok := by kernel_rfl
theorem ok17 (ty0 : TypeId) (ty1 : TypeId) (ty2 : TypeId) (ty3 : TypeId) (ty4 : TypeId) : s17.ok Tryz.prog 11 (heap0 ty0 ty1 ty2 ty3 ty4) := stepM 60 (by kernel_rfl) (fun _ h => by cases h) (fun _ h => by cases h) (by kernel_rfl) (run17 ty0 ty1 ty2 ty3 ty4)
end Go.Proofs.YtfnnfpkbllgeiaaGreatDoor.CanonF
