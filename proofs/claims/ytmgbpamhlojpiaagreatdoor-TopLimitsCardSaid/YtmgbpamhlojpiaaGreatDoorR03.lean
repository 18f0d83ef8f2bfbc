/- Some documents of the law TopLimits are run: true. -/
import Derived.Test.YtmgbpamhlojpiaaGreatDoorTa
namespace Go.X
set_option maxRecDepth 100000
theorem run_1_19 : runs 1 19 2 = true := by kernel_rfl
theorem run_1_17 : runs 1 17 2 = true := by kernel_rfl
theorem run_1_15 : runs 1 15 2 = true := by kernel_rfl
end Go.X
