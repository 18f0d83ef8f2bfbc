/- Some documents of the law TopLimits are run: true. -/
import Derived.Test.YtmgbpamhlojpiaaGreatDoorTa
namespace Go.X
set_option maxRecDepth 100000
theorem run_3_17 : runs 3 17 2 = true := by kernel_rfl
theorem run_3_15 : runs 3 15 2 = true := by kernel_rfl
theorem run_3_13 : runs 3 13 2 = true := by kernel_rfl
theorem run_3_11 : runs 3 11 2 = true := by kernel_rfl
theorem run_3_8 : runs 3 8 3 = true := by kernel_rfl
end Go.X
