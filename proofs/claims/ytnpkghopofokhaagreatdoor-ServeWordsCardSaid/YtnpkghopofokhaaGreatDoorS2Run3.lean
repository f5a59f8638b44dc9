/- Some of these calls, run. -/
import Derived.Test.YtnpkghopofokhaaGreatDoorS2Ents
namespace Go.Am
open Go.Proofs
set_option maxRecDepth 100000
set_option maxHeartbeats 4000000
theorem a3_run : runE [a2] pg 100000 200 a3 = true := by kernel_rfl
theorem a5_run : runE [] pg 100000 200 a5 = true := by kernel_rfl
theorem a9_run : runE [] pg 100000 200 a9 = true := by kernel_rfl
theorem a14_run : runE [] pg 100000 200 a14 = true := by kernel_rfl
theorem a15_run : runE [] pg 100000 200 a15 = true := by kernel_rfl
end Go.Am
