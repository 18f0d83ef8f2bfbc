/- Some documents of the law TopLimits are run: true. -/
import Derived.Test.YtmgbpamhlojpiaaGreatDoorTa
namespace Go.X
set_option maxRecDepth 100000
theorem run_2_17 : runs 2 17 2 = true := by kernel_rfl
theorem run_2_15 : runs 2 15 2 = true := by kernel_rfl
theorem run_2_13 : runs 2 13 2 = true := by kernel_rfl
theorem run_2_11 : runs 2 11 2 = true := by kernel_rfl
theorem run_2_9 : runs 2 9 2 = true := by kernel_rfl
end Go.X
