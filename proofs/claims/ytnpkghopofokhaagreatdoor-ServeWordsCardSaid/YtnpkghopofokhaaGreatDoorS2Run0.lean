/- Some of these calls, run. -/
import Derived.Test.YtnpkghopofokhaaGreatDoorS2Ents
namespace Go.Am
open Go.Proofs
set_option maxRecDepth 100000
set_option maxHeartbeats 4000000
theorem a2_run : runE [] pg 100000 200 a2 = true := by kernel_rfl
theorem a8_run : runE [] pg 100000 200 a8 = true := by kernel_rfl
theorem a13_run : runE [] pg 100000 200 a13 = true := by kernel_rfl
theorem a16_run : runE [a4, a7, a8, a10, a11, a12, a13, a14, a15] pg 100000 200 a16 = true := by kernel_rfl
end Go.Am
