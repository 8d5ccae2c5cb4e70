/- The law ClusterOpens: runs, in the kernel. -/
import Derived.Test.YtjkpgkmhkgngpaaGreatDoorOpensTop
namespace Go.Proofs.YtjkpgkmhkgngpaaGreatDoor.Opens
open Go.Vai
set_option maxRecDepth 100000
theorem runC0 (ty0 : TypeId) (ty1 : TypeId) (ty2 : TypeId) (ty3 : TypeId) (ty4 : TypeId) : selfS Tryz.prog 15 100000 known steps 60 6 [.lint .i64 0 [⟨0, 1, (-9223372036854775808), 9223372036854775808⟩], .lint .i64 0 [⟨1, 1, (-9223372036854775808), 18446744073709551615⟩]] (heap0 ty0 ty1 ty2 ty3 ty4) 15 (same (.bool true)) = .ok := by kernel_rfl
theorem runC1 (ty0 : TypeId) (ty1 : TypeId) (ty2 : TypeId) (ty3 : TypeId) (ty4 : TypeId) : selfS Tryz.prog 15 100000 known steps 60 6 [.lint .i64 0 [⟨0, 1, 8, 9223372036854775799⟩], .lint .i64 0 [⟨1, 1, (-9223372036854775808), 18446744073709551615⟩]] (heap0 ty0 ty1 ty2 ty3 ty4) 15 (same (.bool true)) = .ok := by kernel_rfl
theorem runC2 (ty0 : TypeId) (ty1 : TypeId) (ty2 : TypeId) (ty3 : TypeId) (ty4 : TypeId) : selfS Tryz.prog 15 100000 known steps 60 6 [.lint .i64 0 [⟨0, 1, 1, 6⟩], .lint .i64 0 [⟨1, 1, (-9223372036854775808), 9223372036854775808⟩]] (heap0 ty0 ty1 ty2 ty3 ty4) 15 (same (.bool true)) = .ok := by kernel_rfl
theorem runC3 (ty0 : TypeId) (ty1 : TypeId) (ty2 : TypeId) (ty3 : TypeId) (ty4 : TypeId) : selfS Tryz.prog 15 100000 known steps 60 6 [.lint .i64 0 [⟨0, 1, 1, 6⟩], .lint .i64 0 [⟨1, 1, 5, 9223372036854775802⟩]] (heap0 ty0 ty1 ty2 ty3 ty4) 15 (same (.bool true)) = .ok := by kernel_rfl
theorem runC4 (ty0 : TypeId) (ty1 : TypeId) (ty2 : TypeId) (ty3 : TypeId) (ty4 : TypeId) : selfS Tryz.prog 15 100000 known steps 60 6 [.int .i64 1, .int .i64 1] (heap0 ty0 ty1 ty2 ty3 ty4) 15 (same (.bool true)) = .ok := by kernel_rfl
theorem runC5 (ty0 : TypeId) (ty1 : TypeId) (ty2 : TypeId) (ty3 : TypeId) (ty4 : TypeId) : selfS Tryz.prog 15 100000 known steps 60 6 [.int .i64 1, .int .i64 2] (heap0 ty0 ty1 ty2 ty3 ty4) 15 (same (.bool true)) = .ok := by kernel_rfl
theorem runC6 (ty0 : TypeId) (ty1 : TypeId) (ty2 : TypeId) (ty3 : TypeId) (ty4 : TypeId) : selfS Tryz.prog 15 100000 known steps 60 6 [.int .i64 1, .int .i64 3] (heap0 ty0 ty1 ty2 ty3 ty4) 15 (same (.bool true)) = .ok := by kernel_rfl
theorem runC7 (ty0 : TypeId) (ty1 : TypeId) (ty2 : TypeId) (ty3 : TypeId) (ty4 : TypeId) : selfS Tryz.prog 15 100000 known steps 60 6 [.int .i64 1, .int .i64 4] (heap0 ty0 ty1 ty2 ty3 ty4) 15 (same (.bool true)) = .ok := by kernel_rfl
end Go.Proofs.YtjkpgkmhkgngpaaGreatDoor.Opens
