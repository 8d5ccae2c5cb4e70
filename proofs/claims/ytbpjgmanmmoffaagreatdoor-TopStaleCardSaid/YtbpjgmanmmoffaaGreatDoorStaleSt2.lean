/- A part of the run of the law TopStale. -/
import Derived.Test.YtbpjgmanmmoffaaGreatDoorStaleKn
namespace Go.Proofs.YtbpjgmanmmoffaaGreatDoor.Stale
open Go.Vai
set_option maxRecDepth 100000
theorem run10 (ty0 : TypeId) (ty1 : TypeId) (ty2 : TypeId) (ty3 : TypeId) (ty4 : TypeId) : selfS Tryz.prog 11 100000 known [] 60 s10.f s10.args (hpOf (heap0 ty0 ty1 ty2 ty3 ty4) s10.pre) s10.n (checkK s10) = .ok := by kernel_rfl
theorem ok10 (ty0 : TypeId) (ty1 : TypeId) (ty2 : TypeId) (ty3 : TypeId) (ty4 : TypeId) : s10.ok Tryz.prog 11 (heap0 ty0 ty1 ty2 ty3 ty4) := stepM 60 (by kernel_rfl) (known_ok ty0 ty1 ty2 ty3 ty4) (fun _ h => by cases h) (by kernel_rfl) (run10 ty0 ty1 ty2 ty3 ty4)
theorem run11 (ty0 : TypeId) (ty1 : TypeId) (ty2 : TypeId) (ty3 : TypeId) (ty4 : TypeId) : selfS Tryz.prog 11 100000 known [] 60 s11.f s11.args (hpOf (heap0 ty0 ty1 ty2 ty3 ty4) s11.pre) s11.n (checkK s11) = .ok := by kernel_rfl
theorem ok11 (ty0 : TypeId) (ty1 : TypeId) (ty2 : TypeId) (ty3 : TypeId) (ty4 : TypeId) : s11.ok Tryz.prog 11 (heap0 ty0 ty1 ty2 ty3 ty4) := stepM 60 (by kernel_rfl) (known_ok ty0 ty1 ty2 ty3 ty4) (fun _ h => by cases h) (by kernel_rfl) (run11 ty0 ty1 ty2 ty3 ty4)
theorem run12 (ty0 : TypeId) (ty1 : TypeId) (ty2 : TypeId) (ty3 : TypeId) (ty4 : TypeId) : selfS Tryz.prog 11 100000 known [] 60 s12.f s12.args (hpOf (heap0 ty0 ty1 ty2 ty3 ty4) s12.pre) s12.n (checkK s12) = .ok := by kernel_rfl
theorem ok12 (ty0 : TypeId) (ty1 : TypeId) (ty2 : TypeId) (ty3 : TypeId) (ty4 : TypeId) : s12.ok Tryz.prog 11 (heap0 ty0 ty1 ty2 ty3 ty4) := stepM 60 (by kernel_rfl) (known_ok ty0 ty1 ty2 ty3 ty4) (fun _ h => by cases h) (by kernel_rfl) (run12 ty0 ty1 ty2 ty3 ty4)
theorem run13 (ty0 : TypeId) (ty1 : TypeId) (ty2 : TypeId) (ty3 : TypeId) (ty4 : TypeId) : selfS Tryz.prog 11 100000 known [] 60 s13.f s13.args (hpOf (heap0 ty0 ty1 ty2 ty3 ty4) s13.pre) s13.n (checkK s13) = .ok := by kernel_rfl
theorem ok13 (ty0 : TypeId) (ty1 : TypeId) (ty2 : TypeId) (ty3 : TypeId) (ty4 : TypeId) : s13.ok Tryz.prog 11 (heap0 ty0 ty1 ty2 ty3 ty4) := stepM 60 (by kernel_rfl) (known_ok ty0 ty1 ty2 ty3 ty4) (fun _ h => by cases h) (by kernel_rfl) (run13 ty0 ty1 ty2 ty3 ty4)
theorem run14 (ty0 : TypeId) (ty1 : TypeId) (ty2 : TypeId) (ty3 : TypeId) (ty4 : TypeId) : selfS Tryz.prog 11 100000 known [] 60 s14.f s14.args (hpOf (heap0 ty0 ty1 ty2 ty3 ty4) s14.pre) s14.n (checkK s14) = .ok := by kernel_rfl
theorem ok14 (ty0 : TypeId) (ty1 : TypeId) (ty2 : TypeId) (ty3 : TypeId) (ty4 : TypeId) : s14.ok Tryz.prog 11 (heap0 ty0 ty1 ty2 ty3 ty4) := stepM 60 (by kernel_rfl) (known_ok ty0 ty1 ty2 ty3 ty4) (fun _ h => by cases h) (by kernel_rfl) (run14 ty0 ty1 ty2 ty3 ty4)
end Go.Proofs.YtbpjgmanmmoffaaGreatDoor.Stale
