/- Some documents of the law TopLimits are run: true. -/
import Derived.Test.YtmgbpamhlojpiaaGreatDoorTa
namespace Go.X
set_option maxRecDepth 100000
theorem run_1_2 : runs 1 2 3 = true := by kernel_rfl
theorem run_1_1 : runs 1 1 1 = true := by kernel_rfl
theorem run_2_29 : runs 2 29 2 = true := by kernel_rfl
theorem run_2_27 : runs 2 27 2 = true := by kernel_rfl
end Go.X
