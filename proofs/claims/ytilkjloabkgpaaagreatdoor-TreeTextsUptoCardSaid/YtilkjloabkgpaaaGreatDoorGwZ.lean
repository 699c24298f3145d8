/- Plain laws on loops. No program in sight. -/
import Derived.Test.YtilkjloabkgpaaaGreatDoorGwL
import Derived.Test.YtilkjloabkgpaaaGreatDoorGwN
set_option linter.unusedVariables false
set_option linter.unusedSimpArgs false
set_option linter.unnecessarySimpa false
namespace Go.Gw

theorem setI_nat {α : Type} (xs : List α) (n : Nat) (v : α) : setI xs (n : Int) v = xs.set n v := by simp [setI]
end Go.Gw

