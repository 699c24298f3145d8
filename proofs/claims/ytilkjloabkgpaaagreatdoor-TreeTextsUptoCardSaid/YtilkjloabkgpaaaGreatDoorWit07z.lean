/- Chapter 7: a world in which all that is listed is laid: the witness of every row. -/
import Derived.Test.YtilkjloabkgpaaaGreatDoorOpenD07z
set_option linter.unusedVariables false
set_option linter.unusedSimpArgs false
set_option linter.unnecessarySimpa false
namespace Go.Proofs.YtilkjloabkgpaaaGreatDoor
open Go.Proofs Go.RowKit Go.Deep
set_option linter.unusedSimpArgs false
set_option maxRecDepth 1000000

noncomputable def laidWorld (os : Os) : World := World.laidAll Tryz.prog os Go.D07.laid07
theorem wit_vars (os : Os) (args : Array Value) : ((laidWorld os).forCall (fun _ _ => 0) ⟨#[], args, []⟩).variablesRefB Tryz.prog = true := by kernel_rfl
theorem wit_rest (os : Os) (args : Array Value) : (((laidWorld os).forCall (fun _ _ => 0) ⟨#[], args, []⟩).heap.toList.drop Tryz.prog.globals.size).take ((begin Tryz.prog (fun _ _ => 0) default).world.heap.size - Tryz.prog.globals.size) =
      (begin Tryz.prog (fun _ _ => 0) default).world.heap.toList.drop Tryz.prog.globals.size := by kernel_rfl
theorem wit_laid (os : Os) (args : Array Value) : laidMet Tryz.prog Go.D07.laid07 ((laidWorld os).forCall (fun _ _ => 0) ⟨#[], args, []⟩).memory :=
  laidMet_laidAll args (by kernel_rfl) (by kernel_rfl)
end Go.Proofs.YtilkjloabkgpaaaGreatDoor
