/- Some of these calls, run. -/
import Derived.Test.YtnpkghopofokhaaGreatDoorS2Ents
namespace Go.Am
open Go.Proofs
set_option maxRecDepth 100000
set_option maxHeartbeats 4000000
theorem a0_run : runE [] pg 100000 200 a0 = true := by kernel_rfl
theorem a7_run : runE [a6] pg 100000 200 a7 = true := by kernel_rfl
theorem a10_run : runE [a9] pg 100000 200 a10 = true := by kernel_rfl
theorem a12_run : runE [] pg 100000 200 a12 = true := by kernel_rfl
theorem a17_run : runE [a16] pg 100000 200 a17 = true := by kernel_rfl
end Go.Am
