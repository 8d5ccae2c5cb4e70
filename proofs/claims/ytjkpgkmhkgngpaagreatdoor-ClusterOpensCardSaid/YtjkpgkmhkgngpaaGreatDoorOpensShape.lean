/- The world that bears witness to the row: its closed facts. -/
import Derived.Test.YtjkpgkmhkgngpaaGreatDoorOpensLay
import Derived.JoinedOf
import Derived.SevenTiedAt
import Derived.ProofKit
import Derived.OpenShut
import Derived.LaidMore
import Derived.Stop.Joined
import Derived.Below
namespace Go.Proofs.YtjkpgkmhkgngpaaGreatDoor.Opens
open Go Go.ChangeShapes Go.WideShapes Go.ChangeAt Go.RowKit
set_option maxRecDepth 100000
def wargs : Array Value := #[.int .i64 0, .int .i64 0]
noncomputable def ww (os : Os) : World := (World.laidAll Tryz.prog os Rows.clusterOpensRow.laid).forCall (fun _ _ => 0) ⟨#[], wargs, []⟩
theorem zips (os : Os) : (ww os).variablesZipB Tryz.prog = true := by
  unfold ww
  rw [laidAll_eq]
  kernel_rfl
theorem rest (os : Os) : ((ww os).heap.toList.drop Tryz.prog.globals.size).take ((begin Tryz.prog (fun _ _ => 0) default).world.heap.size - Tryz.prog.globals.size) =
      (begin Tryz.prog (fun _ _ => 0) default).world.heap.toList.drop Tryz.prog.globals.size := by
  unfold ww
  rw [laidAll_eq]
  kernel_rfl
theorem ifaces (os : Os) : (World.holding Tryz.prog os ⟨#[], #[], []⟩).layIfaces Tryz.prog Rows.clusterOpensRow.laid (World.laidAll Tryz.prog os Rows.clusterOpensRow.laid) = true := by
  unfold World.layIfaces
  rw [held_size, laid_y, laidAll_eq]
  kernel_rfl
theorem wide (os : Os) : Input.okWideB Tryz.prog (ww os) 6 ⟨#[], wargs, []⟩ = true := by
  unfold ww
  rw [laidAll_eq]
  kernel_rfl
theorem preB_ok (os : Os) (H : Type) (enc : TypeId × Value → H) : Rows.clusterOpensSpec.preB enc Tryz.prog Tryz.f6 Rows.clusterOpensRow.domain false (ww os).memory wargs 8 = true := by
  unfold ww
  rw [laidAll_eq]
  kernel_rfl
theorem sizedB_ok (os : Os) (H : Type) (enc : TypeId × Value → H) : Rows.clusterOpensSpec.sizedB enc Tryz.prog Tryz.f6 false (ww os).memory wargs 8 = true := by
  unfold ww
  rw [laidAll_eq]
  kernel_rfl
theorem shaped (os : Os) : (ww os).Shaped Tryz.prog := World.shaped_of_ZipB (zips os) (rest os)
theorem fitA : decide (y.1.map (·.1)).Nodup = true := by kernel_rfl
theorem fitB (os : Os) : (y.1.all fun r => Lay.isRow (World.holding Tryz.prog os ⟨#[], #[], []⟩).heap.toList[r.1]? && !([] : List Nat).contains r.1) = true := by kernel_rfl
theorem fits (os : Os) : (World.holding Tryz.prog os ⟨#[], #[], []⟩).layFits Tryz.prog Rows.clusterOpensRow.laid [] = true := by
  unfold World.layFits
  rw [held_size, laid_y]
  show (decide (y.1.map (·.1)).Nodup && (y.1.all fun r => Lay.isRow (World.holding Tryz.prog os ⟨#[], #[], []⟩).heap.toList[r.1]? && !([] : List Nat).contains r.1) && _) = true
  rw [fitA, fitB]
  rfl
end Go.Proofs.YtjkpgkmhkgngpaaGreatDoor.Opens
