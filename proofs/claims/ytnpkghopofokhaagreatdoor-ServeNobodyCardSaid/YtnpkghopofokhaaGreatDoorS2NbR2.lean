/- Runs of ServeNobody, one a number of lines. -/
import Derived.Test.YtnpkghopofokhaaGreatDoorS2Nb
namespace Go.Am
open Go.Proofs
set_option maxRecDepth 100000
theorem nb5_run (e : Nat) : runE [a17] pg 100000 200 (nb 5 e) = true := by kernel_rfl
theorem nb6_run (e : Nat) : runE [a17] pg 100000 200 (nb 6 e) = true := by kernel_rfl
theorem nb11_run (e : Nat) : runE [a17] pg 100000 200 (nb 11 e) = true := by kernel_rfl
theorem nb12_run (e : Nat) : runE [a17] pg 100000 200 (nb 12 e) = true := by kernel_rfl
theorem nb17_run (e : Nat) : runE [a17] pg 100000 200 (nb 17 e) = true := by kernel_rfl
theorem nb18_run (e : Nat) : runE [a17] pg 100000 200 (nb 18 e) = true := by kernel_rfl
theorem nb23_run (e : Nat) : runE [a17] pg 100000 200 (nb 23 e) = true := by kernel_rfl
theorem nb24_run (e : Nat) : runE [a17] pg 100000 200 (nb 24 e) = true := by kernel_rfl
theorem nb29_run (e : Nat) : runE [a17] pg 100000 200 (nb 29 e) = true := by kernel_rfl
theorem nb30_run (e : Nat) : runE [a17] pg 100000 200 (nb 30 e) = true := by kernel_rfl
theorem nb35_run (e : Nat) : runE [a17] pg 100000 200 (nb 35 e) = true := by kernel_rfl
theorem nb36_run (e : Nat) : runE [a17] pg 100000 200 (nb 36 e) = true := by kernel_rfl
theorem nb41_run (e : Nat) : runE [a17] pg 100000 200 (nb 41 e) = true := by kernel_rfl
theorem nb42_run (e : Nat) : runE [a17] pg 100000 200 (nb 42 e) = true := by kernel_rfl
theorem nb47_run (e : Nat) : runE [a17] pg 100000 200 (nb 47 e) = true := by kernel_rfl
theorem nb48_run (e : Nat) : runE [a17] pg 100000 200 (nb 48 e) = true := by kernel_rfl
end Go.Am
