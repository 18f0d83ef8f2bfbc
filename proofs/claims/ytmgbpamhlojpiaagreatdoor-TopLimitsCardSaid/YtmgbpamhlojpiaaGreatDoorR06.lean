/- Some documents of the law TopLimits are run: true. -/
import Derived.Test.YtmgbpamhlojpiaaGreatDoorTa
namespace Go.X
set_option maxRecDepth 100000
theorem run_2_25 : runs 2 25 2 = true := by kernel_rfl
theorem run_2_23 : runs 2 23 2 = true := by kernel_rfl
theorem run_2_21 : runs 2 21 2 = true := by kernel_rfl
theorem run_2_19 : runs 2 19 2 = true := by kernel_rfl
end Go.X
