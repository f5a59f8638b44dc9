/- Some of these calls, run. -/
import Derived.Test.YtajnbfaalonocaaGreatDoorS1Ents
namespace Go.Am
open Go.Proofs
set_option maxRecDepth 100000
set_option maxHeartbeats 4000000
theorem a0_run : runE [] pg 100000 200 a0 = true := by kernel_rfl
theorem a1_run : runE [] pg 100000 200 a1 = true := by kernel_rfl
theorem a7_run : runE [] pg 100000 200 a7 = true := by kernel_rfl
end Go.Am
