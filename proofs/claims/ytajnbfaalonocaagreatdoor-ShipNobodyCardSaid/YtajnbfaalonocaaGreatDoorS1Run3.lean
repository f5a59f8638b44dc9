/- Some of these calls, run. -/
import Derived.Test.YtajnbfaalonocaaGreatDoorS1Ents
namespace Go.Am
open Go.Proofs
set_option maxRecDepth 100000
set_option maxHeartbeats 4000000
theorem a6_run : runE [] pg 100000 200 a6 = true := by kernel_rfl
theorem a9_run : runE [a8] pg 100000 200 a9 = true := by kernel_rfl
theorem a10_run : runE [a9] pg 100000 200 a10 = true := by kernel_rfl
theorem a11_run : runE [] pg 100000 200 a11 = true := by kernel_rfl
end Go.Am
