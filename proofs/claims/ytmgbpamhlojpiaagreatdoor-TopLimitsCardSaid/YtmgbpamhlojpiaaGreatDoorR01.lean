/- Some documents of the law TopLimits are run: true. -/
import Derived.Test.YtmgbpamhlojpiaaGreatDoorTa
namespace Go.X
set_option maxRecDepth 100000
theorem run_1_29 : runs 1 29 1 = true := by kernel_rfl
theorem run_1_28 : runs 1 28 1 = true := by kernel_rfl
theorem run_1_27 : runs 1 27 1 = true := by kernel_rfl
theorem run_1_26 : runs 1 26 1 = true := by kernel_rfl
end Go.X
