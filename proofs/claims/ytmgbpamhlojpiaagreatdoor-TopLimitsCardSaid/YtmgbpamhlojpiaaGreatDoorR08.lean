/- Some documents of the law TopLimits are run: true. -/
import Derived.Test.YtmgbpamhlojpiaaGreatDoorTa
namespace Go.X
set_option maxRecDepth 100000
theorem run_2_6 : runs 2 6 3 = true := by kernel_rfl
theorem run_2_3 : runs 2 3 3 = true := by kernel_rfl
theorem run_2_1 : runs 2 1 2 = true := by kernel_rfl
theorem run_3_29 : runs 3 29 2 = true := by kernel_rfl
theorem run_3_27 : runs 3 27 2 = true := by kernel_rfl
end Go.X
