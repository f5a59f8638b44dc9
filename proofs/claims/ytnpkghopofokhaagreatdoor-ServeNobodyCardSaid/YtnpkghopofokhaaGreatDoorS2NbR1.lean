/- Runs of ServeNobody, one a number of lines. -/
import Derived.Test.YtnpkghopofokhaaGreatDoorS2Nb
namespace Go.Am
open Go.Proofs
set_option maxRecDepth 100000
theorem nb1_run (e : Nat) : runE [a17] pg 100000 200 (nb 1 e) = true := by kernel_rfl
theorem nb4_run (e : Nat) : runE [a17] pg 100000 200 (nb 4 e) = true := by kernel_rfl
theorem nb7_run (e : Nat) : runE [a17] pg 100000 200 (nb 7 e) = true := by kernel_rfl
theorem nb10_run (e : Nat) : runE [a17] pg 100000 200 (nb 10 e) = true := by kernel_rfl
theorem nb13_run (e : Nat) : runE [a17] pg 100000 200 (nb 13 e) = true := by kernel_rfl
theorem nb16_run (e : Nat) : runE [a17] pg 100000 200 (nb 16 e) = true := by kernel_rfl
theorem nb19_run (e : Nat) : runE [a17] pg 100000 200 (nb 19 e) = true := by kernel_rfl
theorem nb22_run (e : Nat) : runE [a17] pg 100000 200 (nb 22 e) = true := by kernel_rfl
theorem nb25_run (e : Nat) : runE [a17] pg 100000 200 (nb 25 e) = true := by kernel_rfl
theorem nb28_run (e : Nat) : runE [a17] pg 100000 200 (nb 28 e) = true := by kernel_rfl
theorem nb31_run (e : Nat) : runE [a17] pg 100000 200 (nb 31 e) = true := by kernel_rfl
theorem nb34_run (e : Nat) : runE [a17] pg 100000 200 (nb 34 e) = true := by kernel_rfl
theorem nb37_run (e : Nat) : runE [a17] pg 100000 200 (nb 37 e) = true := by kernel_rfl
theorem nb40_run (e : Nat) : runE [a17] pg 100000 200 (nb 40 e) = true := by kernel_rfl
theorem nb43_run (e : Nat) : runE [a17] pg 100000 200 (nb 43 e) = true := by kernel_rfl
theorem nb46_run (e : Nat) : runE [a17] pg 100000 200 (nb 46 e) = true := by kernel_rfl
theorem nb49_run (e : Nat) : runE [a17] pg 100000 200 (nb 49 e) = true := by kernel_rfl
end Go.Am
