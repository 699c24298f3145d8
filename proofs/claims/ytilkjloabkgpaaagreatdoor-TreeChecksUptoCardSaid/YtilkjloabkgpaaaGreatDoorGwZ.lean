/- Plain laws on loops. No program in sight. -/
import Derived.Test.YtilkjloabkgpaaaGreatDoorGwL
import Derived.Test.YtilkjloabkgpaaaGreatDoorGwN
set_option linter.unusedVariables false
set_option linter.unusedSimpArgs false
set_option linter.unnecessarySimpa false
namespace Go.Gw

end Go.Gw

