/- Some of these calls, run. -/
import Derived.Test.YtnpkghopofokhaaGreatDoorS2Ents
namespace Go.Am
open Go.Proofs
set_option maxRecDepth 100000
set_option maxHeartbeats 4000000
theorem a1_run : runE [] pg 100000 200 a1 = true := by kernel_rfl
theorem a4_run : runE [a0, a1, a3] pg 100000 200 a4 = true := by kernel_rfl
theorem a6_run : runE [a5] pg 100000 200 a6 = true := by kernel_rfl
theorem a11_run : runE [] pg 100000 200 a11 = true := by kernel_rfl
end Go.Am
