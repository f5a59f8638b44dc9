/- Runs of ServeNobody, one a number of lines. -/
import Derived.Test.YtnpkghopofokhaaGreatDoorS2Nb
namespace Go.Am
open Go.Proofs
set_option maxRecDepth 100000
theorem nb2_run (e : Nat) : runE [a17] pg 100000 200 (nb 2 e) = true := by kernel_rfl
theorem nb3_run (e : Nat) : runE [a17] pg 100000 200 (nb 3 e) = true := by kernel_rfl
theorem nb8_run (e : Nat) : runE [a17] pg 100000 200 (nb 8 e) = true := by kernel_rfl
theorem nb9_run (e : Nat) : runE [a17] pg 100000 200 (nb 9 e) = true := by kernel_rfl
theorem nb14_run (e : Nat) : runE [a17] pg 100000 200 (nb 14 e) = true := by kernel_rfl
theorem nb15_run (e : Nat) : runE [a17] pg 100000 200 (nb 15 e) = true := by kernel_rfl
theorem nb20_run (e : Nat) : runE [a17] pg 100000 200 (nb 20 e) = true := by kernel_rfl
theorem nb21_run (e : Nat) : runE [a17] pg 100000 200 (nb 21 e) = true := by kernel_rfl
theorem nb26_run (e : Nat) : runE [a17] pg 100000 200 (nb 26 e) = true := by kernel_rfl
theorem nb27_run (e : Nat) : runE [a17] pg 100000 200 (nb 27 e) = true := by kernel_rfl
theorem nb32_run (e : Nat) : runE [a17] pg 100000 200 (nb 32 e) = true := by kernel_rfl
theorem nb33_run (e : Nat) : runE [a17] pg 100000 200 (nb 33 e) = true := by kernel_rfl
theorem nb38_run (e : Nat) : runE [a17] pg 100000 200 (nb 38 e) = true := by kernel_rfl
theorem nb39_run (e : Nat) : runE [a17] pg 100000 200 (nb 39 e) = true := by kernel_rfl
theorem nb44_run (e : Nat) : runE [a17] pg 100000 200 (nb 44 e) = true := by kernel_rfl
theorem nb45_run (e : Nat) : runE [a17] pg 100000 200 (nb 45 e) = true := by kernel_rfl
theorem nb50_run (e : Nat) : runE [a17] pg 100000 200 (nb 50 e) = true := by kernel_rfl
end Go.Am
