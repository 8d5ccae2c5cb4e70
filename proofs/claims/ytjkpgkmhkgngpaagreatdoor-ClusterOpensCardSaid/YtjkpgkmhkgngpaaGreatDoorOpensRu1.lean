/- The law ClusterOpens: runs, in the kernel. -/
import Derived.Test.YtjkpgkmhkgngpaaGreatDoorOpensTop
namespace Go.Proofs.YtjkpgkmhkgngpaaGreatDoor.Opens
open Go.Vai
set_option maxRecDepth 100000
theorem runC8 (ty0 : TypeId) (ty1 : TypeId) (ty2 : TypeId) (ty3 : TypeId) (ty4 : TypeId) : selfS Tryz.prog 15 100000 known steps 60 6 [.int .i64 2, .int .i64 1] (heap0 ty0 ty1 ty2 ty3 ty4) 15 (same (.bool true)) = .ok := by kernel_rfl
theorem runC9 (ty0 : TypeId) (ty1 : TypeId) (ty2 : TypeId) (ty3 : TypeId) (ty4 : TypeId) : selfS Tryz.prog 15 100000 known steps 60 6 [.int .i64 2, .int .i64 2] (heap0 ty0 ty1 ty2 ty3 ty4) 15 (same (.bool true)) = .ok := by kernel_rfl
theorem runC10 (ty0 : TypeId) (ty1 : TypeId) (ty2 : TypeId) (ty3 : TypeId) (ty4 : TypeId) : selfS Tryz.prog 15 100000 known steps 60 6 [.int .i64 2, .int .i64 3] (heap0 ty0 ty1 ty2 ty3 ty4) 15 (same (.bool true)) = .ok := by kernel_rfl
theorem runC11 (ty0 : TypeId) (ty1 : TypeId) (ty2 : TypeId) (ty3 : TypeId) (ty4 : TypeId) : selfS Tryz.prog 15 100000 known steps 60 6 [.int .i64 2, .int .i64 4] (heap0 ty0 ty1 ty2 ty3 ty4) 15 (same (.bool true)) = .ok := by kernel_rfl
theorem runC12 (ty0 : TypeId) (ty1 : TypeId) (ty2 : TypeId) (ty3 : TypeId) (ty4 : TypeId) : selfS Tryz.prog 15 100000 known steps 60 6 [.int .i64 3, .int .i64 1] (heap0 ty0 ty1 ty2 ty3 ty4) 15 (same (.bool true)) = .ok := by kernel_rfl
theorem runC13 (ty0 : TypeId) (ty1 : TypeId) (ty2 : TypeId) (ty3 : TypeId) (ty4 : TypeId) : selfS Tryz.prog 15 100000 known steps 60 6 [.int .i64 3, .int .i64 2] (heap0 ty0 ty1 ty2 ty3 ty4) 15 (same (.bool true)) = .ok := by kernel_rfl
theorem runC14 (ty0 : TypeId) (ty1 : TypeId) (ty2 : TypeId) (ty3 : TypeId) (ty4 : TypeId) : selfS Tryz.prog 15 100000 known steps 60 6 [.int .i64 3, .int .i64 3] (heap0 ty0 ty1 ty2 ty3 ty4) 15 (same (.bool true)) = .ok := by kernel_rfl
theorem runC15 (ty0 : TypeId) (ty1 : TypeId) (ty2 : TypeId) (ty3 : TypeId) (ty4 : TypeId) : selfS Tryz.prog 15 100000 known steps 60 6 [.int .i64 3, .int .i64 4] (heap0 ty0 ty1 ty2 ty3 ty4) 15 (same (.bool true)) = .ok := by kernel_rfl
end Go.Proofs.YtjkpgkmhkgngpaaGreatDoor.Opens
