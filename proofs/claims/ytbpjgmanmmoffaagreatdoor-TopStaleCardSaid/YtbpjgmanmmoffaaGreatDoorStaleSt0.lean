/- A part of the run of the law TopStale. -/
import Derived.Test.YtbpjgmanmmoffaaGreatDoorStaleKn
namespace Go.Proofs.YtbpjgmanmmoffaaGreatDoor.Stale
open Go.Vai
set_option maxRecDepth 100000
theorem run0 (ty0 : TypeId) (ty1 : TypeId) (ty2 : TypeId) (ty3 : TypeId) (ty4 : TypeId) : selfS Tryz.prog 11 100000 known [] 60 s0.f s0.args (hpOf (heap0 ty0 ty1 ty2 ty3 ty4) s0.pre) s0.n (checkK s0) = .ok := by kernel_rfl
theorem ok0 (ty0 : TypeId) (ty1 : TypeId) (ty2 : TypeId) (ty3 : TypeId) (ty4 : TypeId) : s0.ok Tryz.prog 11 (heap0 ty0 ty1 ty2 ty3 ty4) := stepM 60 (by kernel_rfl) (known_ok ty0 ty1 ty2 ty3 ty4) (fun _ h => by cases h) (by kernel_rfl) (run0 ty0 ty1 ty2 ty3 ty4)
theorem run1 (ty0 : TypeId) (ty1 : TypeId) (ty2 : TypeId) (ty3 : TypeId) (ty4 : TypeId) : selfS Tryz.prog 11 100000 known [] 60 s1.f s1.args (hpOf (heap0 ty0 ty1 ty2 ty3 ty4) s1.pre) s1.n (checkK s1) = .ok := by kernel_rfl
theorem ok1 (ty0 : TypeId) (ty1 : TypeId) (ty2 : TypeId) (ty3 : TypeId) (ty4 : TypeId) : s1.ok Tryz.prog 11 (heap0 ty0 ty1 ty2 ty3 ty4) := stepM 60 (by kernel_rfl) (known_ok ty0 ty1 ty2 ty3 ty4) (fun _ h => by cases h) (by kernel_rfl) (run1 ty0 ty1 ty2 ty3 ty4)
theorem run2 (ty0 : TypeId) (ty1 : TypeId) (ty2 : TypeId) (ty3 : TypeId) (ty4 : TypeId) : selfS Tryz.prog 11 100000 known [] 60 s2.f s2.args (hpOf (heap0 ty0 ty1 ty2 ty3 ty4) s2.pre) s2.n (checkK s2) = .ok := by kernel_rfl
theorem ok2 (ty0 : TypeId) (ty1 : TypeId) (ty2 : TypeId) (ty3 : TypeId) (ty4 : TypeId) : s2.ok Tryz.prog 11 (heap0 ty0 ty1 ty2 ty3 ty4) := stepM 60 (by kernel_rfl) (known_ok ty0 ty1 ty2 ty3 ty4) (fun _ h => by cases h) (by kernel_rfl) (run2 ty0 ty1 ty2 ty3 ty4)
theorem run3 (ty0 : TypeId) (ty1 : TypeId) (ty2 : TypeId) (ty3 : TypeId) (ty4 : TypeId) : selfS Tryz.prog 11 100000 known [] 60 s3.f s3.args (hpOf (heap0 ty0 ty1 ty2 ty3 ty4) s3.pre) s3.n (checkK s3) = .ok := by kernel_rfl
theorem ok3 (ty0 : TypeId) (ty1 : TypeId) (ty2 : TypeId) (ty3 : TypeId) (ty4 : TypeId) : s3.ok Tryz.prog 11 (heap0 ty0 ty1 ty2 ty3 ty4) := stepM 60 (by kernel_rfl) (known_ok ty0 ty1 ty2 ty3 ty4) (fun _ h => by cases h) (by kernel_rfl) (run3 ty0 ty1 ty2 ty3 ty4)
theorem run4 (ty0 : TypeId) (ty1 : TypeId) (ty2 : TypeId) (ty3 : TypeId) (ty4 : TypeId) : selfS Tryz.prog 11 100000 known [s0, s1, s2, s3] 60 s4.f s4.args (hpOf (heap0 ty0 ty1 ty2 ty3 ty4) s4.pre) s4.n (checkK s4) = .ok := by kernel_rfl
theorem ok4 (ty0 : TypeId) (ty1 : TypeId) (ty2 : TypeId) (ty3 : TypeId) (ty4 : TypeId) : s4.ok Tryz.prog 11 (heap0 ty0 ty1 ty2 ty3 ty4) := stepM 60 (by kernel_rfl) (known_ok ty0 ty1 ty2 ty3 ty4) (List.forall_mem_cons.2 ⟨ok0 ty0 ty1 ty2 ty3 ty4, List.forall_mem_cons.2 ⟨ok1 ty0 ty1 ty2 ty3 ty4, List.forall_mem_cons.2 ⟨ok2 ty0 ty1 ty2 ty3 ty4, List.forall_mem_cons.2 ⟨ok3 ty0 ty1 ty2 ty3 ty4, fun _ h => by cases h⟩⟩⟩⟩) (by kernel_rfl) (run4 ty0 ty1 ty2 ty3 ty4)
end Go.Proofs.YtbpjgmanmmoffaaGreatDoor.Stale
