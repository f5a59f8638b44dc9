/- Some of these calls, run. -/
import Derived.Test.YtajnbfaalonocaaGreatDoorS1Ents
namespace Go.Am
open Go.Proofs
set_option maxRecDepth 100000
set_option maxHeartbeats 4000000
theorem a2_run : runE [a1] pg 100000 200 a2 = true := by kernel_rfl
theorem a4_run : runE [a0, a3] pg 100000 200 a4 = true := by kernel_rfl
theorem a8_run : runE [a7] pg 100000 200 a8 = true := by kernel_rfl
end Go.Am
