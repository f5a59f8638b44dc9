/- Some of these calls, run. -/
import Derived.Test.YtajnbfaalonocaaGreatDoorS1Ents
namespace Go.Am
open Go.Proofs
set_option maxRecDepth 100000
set_option maxHeartbeats 4000000
theorem a3_run : runE [a2] pg 100000 200 a3 = true := by kernel_rfl
theorem a5_run : runE [] pg 100000 200 a5 = true := by kernel_rfl
theorem a12_run : runE [a6, a10, a11] pg 100000 200 a12 = true := by kernel_rfl
theorem a13_run : runE [a4, a5, a12] pg 100000 200 a13 = true := by kernel_rfl
end Go.Am
