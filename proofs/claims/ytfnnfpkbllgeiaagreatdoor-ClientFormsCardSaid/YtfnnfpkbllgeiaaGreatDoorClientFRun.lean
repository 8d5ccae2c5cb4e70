/- The law ClientForms: its run, in the kernel. -/
import Derived.Test.YtfnnfpkbllgeiaaGreatDoorVaiWj
import Derived.Test.YtfnnfpkbllgeiaaGreatDoorChecked
namespace Go.Proofs.YtfnnfpkbllgeiaaGreatDoor.ClientF
open Go.Vai
def tab0 : List Int := [0, 1, 28, 2, 29, 14, 24, 3, 30, 22, 20, 15, 25, 17, 4, 8, 31, 27, 13, 23, 21, 19, 16, 7, 26, 12, 18, 6, 11, 5, 10, 9]
def tab1 : List Int := [0, 1, 56, 2, 57, 49, 28, 3, 61, 58, 42, 50, 38, 29, 17, 4, 62, 47, 59, 36, 45, 43, 51, 22, 53, 39, 33, 30, 24, 18, 12, 5, 63, 55, 48, 27, 60, 41, 37, 16, 46, 35, 44, 21, 52, 32, 23, 11, 54, 26, 40, 15, 34, 20, 31, 10, 25, 14, 19, 9, 13, 8, 7, 6]
def tab2 : List Int := [1, 10, 100, 1000, 10000, 100000, 1000000, 10000000, 100000000, 1000000000, 10000000000, 100000000000, 1000000000000, 10000000000000, 100000000000000, 1000000000000000, 10000000000000000, 100000000000000000, 1000000000000000000, 10000000000000000000]
noncomputable def heap0 (ty0 : TypeId) (ty1 : TypeId) (ty2 : TypeId) : Hp := ((((Trie.leaf : Hp).set 5 (tabObj .u8 tab0 ty0)).set 6 (tabObj .u8 tab1 ty1)).set 0 (tabObj .u64 tab2 ty2))
set_option maxRecDepth 100000
theorem run (ty0 : TypeId) (ty1 : TypeId) (ty2 : TypeId) : selfM Tryz.prog 11 100000 [] 60 5 [] (heap0 ty0 ty1 ty2) 11 (same (.bool true)) = .ok := by kernel_rfl
end Go.Proofs.YtfnnfpkbllgeiaaGreatDoor.ClientF
