/- The closed facts of the row, one by one, part 1. -/
import Derived.Test.YtjkpgkmhkgngpaaGreatDoorRows
import Derived.JoinedOf
import Derived.KernelRfl
import GoSem.ClaimSeven
namespace Go.Proofs.YtjkpgkmhkgngpaaGreatDoor.Opens
open Go
set_option maxRecDepth 100000
theorem fact1 : (fun (_P : Program) (_f : FuncId) (_fn : Func) (s : ChangeSpec) (c : OpenClaim) => (c.wf (OpenSpec.ofChange s) : Bool)) Tryz.prog 6 Tryz.f6 Rows.clusterOpensSpec Rows.clusterOpensRow = true := by kernel_rfl
theorem rows0 : (List.range' 0 92).all (rowFine Tryz.prog) = true := by kernel_rfl
theorem rows1 : (List.range' 92 93).all (rowFine Tryz.prog) = true := by kernel_rfl
theorem rows2 : (List.range' 185 92).all (rowFine Tryz.prog) = true := by kernel_rfl
theorem rows3 : (List.range' 277 93).all (rowFine Tryz.prog) = true := by kernel_rfl
theorem rows4 : (List.range' 370 93).all (rowFine Tryz.prog) = true := by kernel_rfl
theorem rows5 : (List.range' 463 92).all (rowFine Tryz.prog) = true := by kernel_rfl
theorem rows6 : (List.range' 555 93).all (rowFine Tryz.prog) = true := by kernel_rfl
theorem rows7 : (List.range' 648 93).all (rowFine Tryz.prog) = true := by kernel_rfl
theorem typesN : Tryz.prog.types.size = 741 := by kernel_rfl
theorem globsT : Tryz.prog.globals.all (fun g => decide (g.type < Tryz.prog.types.size)) = true := by kernel_rfl
theorem funcsT : Tryz.prog.funcs.all (fun f => f.params.all fun t => decide (t < Tryz.prog.types.size)) = true := by kernel_rfl
theorem rangeN : List.range 741 = List.range' 0 92 ++ (List.range' 92 93 ++ (List.range' 185 92 ++ (List.range' 277 93 ++ (List.range' 370 93 ++ (List.range' 463 92 ++ (List.range' 555 93 ++ (List.range' 648 93))))))) := by decide
theorem fact2 : (fun (P : Program) (_f : FuncId) (_fn : Func) (_s : ChangeSpec) (_c : OpenClaim) => (laidOutB P : Bool)) Tryz.prog 6 Tryz.f6 Rows.clusterOpensSpec Rows.clusterOpensRow = true := by
  show ((List.range Tryz.prog.types.size).all (rowFine Tryz.prog) && Tryz.prog.globals.all (fun g => decide (g.type < Tryz.prog.types.size)) && Tryz.prog.funcs.all (fun f => f.params.all fun t => decide (t < Tryz.prog.types.size))) = true
  rw [globsT, funcsT, typesN, rangeN]
  simp only [List.all_append, rows0, rows1, rows2, rows3, rows4, rows5, rows6, rows7, Bool.and_true]
theorem fact3 : (fun (P : Program) (_f : FuncId) (_fn : Func) (_s : ChangeSpec) (_c : OpenClaim) => (mapsRowed P : Bool)) Tryz.prog 6 Tryz.f6 Rows.clusterOpensSpec Rows.clusterOpensRow = true := by kernel_rfl
theorem fact4 : (fun (P : Program) (_f : FuncId) (fn : Func) (_s : ChangeSpec) (_c : OpenClaim) => (fn.params.all (P.readableRec ·) : Bool)) Tryz.prog 6 Tryz.f6 Rows.clusterOpensSpec Rows.clusterOpensRow = true := by kernel_rfl
theorem fact5 : (fun (P : Program) (_f : FuncId) (_fn : Func) (s : ChangeSpec) (c : OpenClaim) => (namedTie P c.named s.vars : Bool)) Tryz.prog 6 Tryz.f6 Rows.clusterOpensSpec Rows.clusterOpensRow = true := by kernel_rfl
theorem fact6 : (fun (_P : Program) (_f : FuncId) (_fn : Func) (_s : ChangeSpec) (c : OpenClaim) => ((c.stops == []) : Bool)) Tryz.prog 6 Tryz.f6 Rows.clusterOpensSpec Rows.clusterOpensRow = true := by kernel_rfl
theorem fact7 : (fun (P : Program) (_f : FuncId) (_fn : Func) (_s : ChangeSpec) (_c : OpenClaim) => ((P.stops == []) : Bool)) Tryz.prog 6 Tryz.f6 Rows.clusterOpensSpec Rows.clusterOpensRow = true := by kernel_rfl
theorem fact8 : (fun (_P : Program) (_f : FuncId) (_fn : Func) (_s : ChangeSpec) (c : OpenClaim) => ((c.knobs == []) : Bool)) Tryz.prog 6 Tryz.f6 Rows.clusterOpensSpec Rows.clusterOpensRow = true := by kernel_rfl
theorem fact9 : (fun (P : Program) (_f : FuncId) (_fn : Func) (_s : ChangeSpec) (_c : OpenClaim) => ((P.stopKnobs == []) : Bool)) Tryz.prog 6 Tryz.f6 Rows.clusterOpensSpec Rows.clusterOpensRow = true := by kernel_rfl
end Go.Proofs.YtjkpgkmhkgngpaaGreatDoor.Opens
