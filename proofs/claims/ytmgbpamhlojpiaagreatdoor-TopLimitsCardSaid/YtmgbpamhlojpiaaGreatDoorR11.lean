/- Some documents of the law TopLimits are run: true. -/
import Derived.Test.YtmgbpamhlojpiaaGreatDoorTa
namespace Go.X
set_option maxRecDepth 100000
theorem run_3_5 : runs 3 5 3 = true := by kernel_rfl
theorem run_3_2 : runs 3 2 3 = true := by kernel_rfl
theorem run_3_1 : runs 3 1 1 = true := by kernel_rfl
end Go.X
