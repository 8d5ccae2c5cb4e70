/- A part of the run of the law TopStale. -/
import Derived.Test.YtbpjgmanmmoffaaGreatDoorStaleKn
namespace Go.Proofs.YtbpjgmanmmoffaaGreatDoor.Stale
open Go.Vai
set_option maxRecDepth 100000
theorem run5 (ty0 : TypeId) (ty1 : TypeId) (ty2 : TypeId) (ty3 : TypeId) (ty4 : TypeId) : selfS Tryz.prog 11 100000 known [] 60 s5.f s5.args (hpOf (heap0 ty0 ty1 ty2 ty3 ty4) s5.pre) s5.n (checkK s5) = .ok := by kernel_rfl
theorem ok5 (ty0 : TypeId) (ty1 : TypeId) (ty2 : TypeId) (ty3 : TypeId) (ty4 : TypeId) : s5.ok Tryz.prog 11 (heap0 ty0 ty1 ty2 ty3 ty4) := stepM 60 (by kernel_rfl) (known_ok ty0 ty1 ty2 ty3 ty4) (fun _ h => by cases h) (by kernel_rfl) (run5 ty0 ty1 ty2 ty3 ty4)
theorem run6 (ty0 : TypeId) (ty1 : TypeId) (ty2 : TypeId) (ty3 : TypeId) (ty4 : TypeId) : selfS Tryz.prog 11 100000 known [s5] 60 s6.f s6.args (hpOf (heap0 ty0 ty1 ty2 ty3 ty4) s6.pre) s6.n (checkK s6) = .ok := by kernel_rfl
theorem ok6 (ty0 : TypeId) (ty1 : TypeId) (ty2 : TypeId) (ty3 : TypeId) (ty4 : TypeId) : s6.ok Tryz.prog 11 (heap0 ty0 ty1 ty2 ty3 ty4) := stepM 60 (by kernel_rfl) (known_ok ty0 ty1 ty2 ty3 ty4) (List.forall_mem_cons.2 ⟨ok5 ty0 ty1 ty2 ty3 ty4, fun _ h => by cases h⟩) (by kernel_rfl) (run6 ty0 ty1 ty2 ty3 ty4)
theorem run7 (ty0 : TypeId) (ty1 : TypeId) (ty2 : TypeId) (ty3 : TypeId) (ty4 : TypeId) : selfS Tryz.prog 11 100000 known [] 60 s7.f s7.args (hpOf (heap0 ty0 ty1 ty2 ty3 ty4) s7.pre) s7.n (checkK s7) = .ok := by kernel_rfl
theorem ok7 (ty0 : TypeId) (ty1 : TypeId) (ty2 : TypeId) (ty3 : TypeId) (ty4 : TypeId) : s7.ok Tryz.prog 11 (heap0 ty0 ty1 ty2 ty3 ty4) := stepM 60 (by kernel_rfl) (known_ok ty0 ty1 ty2 ty3 ty4) (fun _ h => by cases h) (by kernel_rfl) (run7 ty0 ty1 ty2 ty3 ty4)
theorem run8 (ty0 : TypeId) (ty1 : TypeId) (ty2 : TypeId) (ty3 : TypeId) (ty4 : TypeId) : selfS Tryz.prog 11 100000 known [] 60 s8.f s8.args (hpOf (heap0 ty0 ty1 ty2 ty3 ty4) s8.pre) s8.n (checkK s8) = .ok := by kernel_rfl
theorem ok8 (ty0 : TypeId) (ty1 : TypeId) (ty2 : TypeId) (ty3 : TypeId) (ty4 : TypeId) : s8.ok Tryz.prog 11 (heap0 ty0 ty1 ty2 ty3 ty4) := stepM 60 (by kernel_rfl) (known_ok ty0 ty1 ty2 ty3 ty4) (fun _ h => by cases h) (by kernel_rfl) (run8 ty0 ty1 ty2 ty3 ty4)
theorem run9 (ty0 : TypeId) (ty1 : TypeId) (ty2 : TypeId) (ty3 : TypeId) (ty4 : TypeId) : selfS Tryz.prog 11 100000 known [] 60 s9.f s9.args (hpOf (heap0 ty0 ty1 ty2 ty3 ty4) s9.pre) s9.n (checkK s9) = .ok := by kernel_rfl
theorem ok9 (ty0 : TypeId) (ty1 : TypeId) (ty2 : TypeId) (ty3 : TypeId) (ty4 : TypeId) : s9.ok Tryz.prog 11 (heap0 ty0 ty1 ty2 ty3 ty4) := stepM 60 (by kernel_rfl) (known_ok ty0 ty1 ty2 ty3 ty4) (fun _ h => by cases h) (by kernel_rfl) (run9 ty0 ty1 ty2 ty3 ty4)
end Go.Proofs.YtbpjgmanmmoffaaGreatDoor.Stale
