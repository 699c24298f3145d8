/- Chapter 1: what start-up code laid, as the listed tables tell it. -/
import Derived.Test.YtnggnpppaaiflaaDoorOpenS01
import Derived.Test.YtnggnpppaaiflaaDoorUnits7
set_option linter.unusedVariables false
set_option linter.unusedSimpArgs false
set_option linter.unnecessarySimpa false
namespace Go.Gw
open Go.Proofs Go.RowKit Go.Deep
open Go.Proofs.YtnggnpppaaiflaaDoor
set_option linter.unusedSimpArgs false
set_option maxRecDepth 100000

def laid01 : List (String × DataW Unit) := Rows.unitsOfUptoRow.laid
def tab64 : List Int := [0, 1, 56, 2, 57, 49, 28, 3, 61, 58, 42, 50, 38, 29, 17, 4, 62, 47, 59, 36, 45, 43, 51, 22, 53, 39, 33, 30, 24, 18, 12, 5, 63, 55, 48, 27, 60, 41, 37, 16, 46, 35, 44, 21, 52, 32, 23, 11, 54, 26, 40, 15, 34, 20, 31, 10, 25, 14, 19, 9, 13, 8, 7, 6]
theorem glob_of {W : World} (h : W.ShapedOpen Tryd.prog) (hL : laidMetH Tryd.prog laid01 W) : Glob (heapOf W) := by
  obtain ⟨m, hm⟩ := Tryd.laysM219.s1_3 W h
  refine ⟨⟨m, cellF_of hm⟩, ?_⟩
  exact tab_of (name := "math/bits.deBruijn64tab") (zs := tab64) (t := 105) (e := 5) (n := 64) hL (by kernel_rfl) (by kernel_rfl) (by kernel_rfl) (by kernel_rfl) Tryd.underlying105 Tryd.underlying5 (by kernel_rfl) (by kernel_rfl) 15 (by decide)
end Go.Gw
