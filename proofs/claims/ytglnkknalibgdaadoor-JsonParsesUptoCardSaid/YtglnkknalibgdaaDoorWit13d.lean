/- Chapter 13: a world in which all that is listed is laid: the witness of every row. -/
import Derived.Test.YtglnkknalibgdaaDoorOpenD13d
set_option linter.unusedVariables false
set_option linter.unusedSimpArgs false
set_option linter.unnecessarySimpa false
namespace Go.Proofs.YtglnkknalibgdaaDoor
open Go.Proofs Go.RowKit Go.Deep
set_option linter.unusedSimpArgs false
set_option maxRecDepth 1000000

noncomputable def laidWorld (os : Os) : World := World.laidAll Tryd.prog os Go.D13.laid13
theorem wit_vars (os : Os) (args : Array Value) : ((laidWorld os).forCall (fun _ _ => 0) ⟨#[], args, []⟩).variablesRefB Tryd.prog = true := by kernel_rfl
theorem wit_rest (os : Os) (args : Array Value) : (((laidWorld os).forCall (fun _ _ => 0) ⟨#[], args, []⟩).heap.toList.drop Tryd.prog.globals.size).take ((begin Tryd.prog (fun _ _ => 0) default).world.heap.size - Tryd.prog.globals.size) =
      (begin Tryd.prog (fun _ _ => 0) default).world.heap.toList.drop Tryd.prog.globals.size := by kernel_rfl
theorem wit_laid (os : Os) (args : Array Value) : laidMet Tryd.prog Go.D13.laid13 ((laidWorld os).forCall (fun _ _ => 0) ⟨#[], args, []⟩).memory :=
  laidMet_laidAll args (by kernel_rfl) (by kernel_rfl)
end Go.Proofs.YtglnkknalibgdaaDoor
