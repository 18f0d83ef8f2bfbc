/- Some documents of the law TopLimits are run: true. -/
import Derived.Test.YtmgbpamhlojpiaaGreatDoorTa
namespace Go.X
set_option maxRecDepth 100000
theorem run_1_13 : runs 1 13 2 = true := by kernel_rfl
theorem run_1_11 : runs 1 11 2 = true := by kernel_rfl
theorem run_1_8 : runs 1 8 3 = true := by kernel_rfl
theorem run_1_5 : runs 1 5 3 = true := by kernel_rfl
end Go.X
