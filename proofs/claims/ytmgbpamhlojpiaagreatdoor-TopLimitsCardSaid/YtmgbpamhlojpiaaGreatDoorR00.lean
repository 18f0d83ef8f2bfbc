/- Some documents of the law TopLimits are run: true. -/
import Derived.Test.YtmgbpamhlojpiaaGreatDoorTa
namespace Go.X
set_option maxRecDepth 100000
theorem run_0_24 : runs 0 24 7 = true := by kernel_rfl
theorem run_0_17 : runs 0 17 7 = true := by kernel_rfl
theorem run_0_10 : runs 0 10 7 = true := by kernel_rfl
theorem run_0_3 : runs 0 3 7 = true := by kernel_rfl
theorem run_0_1 : runs 0 1 2 = true := by kernel_rfl
theorem run_1_30 : runs 1 30 1 = true := by kernel_rfl
end Go.X
