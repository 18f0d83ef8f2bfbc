/- Some documents of the law TopLimits are run: true. -/
import Derived.Test.YtmgbpamhlojpiaaGreatDoorTa
namespace Go.X
set_option maxRecDepth 100000
theorem run_3_25 : runs 3 25 2 = true := by kernel_rfl
theorem run_3_23 : runs 3 23 2 = true := by kernel_rfl
theorem run_3_21 : runs 3 21 2 = true := by kernel_rfl
theorem run_3_19 : runs 3 19 2 = true := by kernel_rfl
end Go.X
