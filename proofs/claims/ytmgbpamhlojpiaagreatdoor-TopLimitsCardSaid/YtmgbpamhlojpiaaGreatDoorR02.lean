/- Some documents of the law TopLimits are run: true. -/
import Derived.Test.YtmgbpamhlojpiaaGreatDoorTa
namespace Go.X
set_option maxRecDepth 100000
theorem run_1_25 : runs 1 25 1 = true := by kernel_rfl
theorem run_1_24 : runs 1 24 1 = true := by kernel_rfl
theorem run_1_23 : runs 1 23 1 = true := by kernel_rfl
theorem run_1_21 : runs 1 21 2 = true := by kernel_rfl
end Go.X
