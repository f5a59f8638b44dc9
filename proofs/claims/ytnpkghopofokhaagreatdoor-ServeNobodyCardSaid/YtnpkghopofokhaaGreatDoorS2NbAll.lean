/- Runs of ServeNobody: all of them. -/
import Derived.Test.YtnpkghopofokhaaGreatDoorS2NbR0
import Derived.Test.YtnpkghopofokhaaGreatDoorS2NbR1
import Derived.Test.YtnpkghopofokhaaGreatDoorS2NbR2
namespace Go.Am
theorem nb_run (e : Nat) : ∀ n, 1 ≤ n → n ≤ 50 → runE [a17] pg 100000 200 (nb n e) = true
  | 0, h, _ => absurd h (by decide)
  | 1, _, _ => nb1_run e
  | 2, _, _ => nb2_run e
  | 3, _, _ => nb3_run e
  | 4, _, _ => nb4_run e
  | 5, _, _ => nb5_run e
  | 6, _, _ => nb6_run e
  | 7, _, _ => nb7_run e
  | 8, _, _ => nb8_run e
  | 9, _, _ => nb9_run e
  | 10, _, _ => nb10_run e
  | 11, _, _ => nb11_run e
  | 12, _, _ => nb12_run e
  | 13, _, _ => nb13_run e
  | 14, _, _ => nb14_run e
  | 15, _, _ => nb15_run e
  | 16, _, _ => nb16_run e
  | 17, _, _ => nb17_run e
  | 18, _, _ => nb18_run e
  | 19, _, _ => nb19_run e
  | 20, _, _ => nb20_run e
  | 21, _, _ => nb21_run e
  | 22, _, _ => nb22_run e
  | 23, _, _ => nb23_run e
  | 24, _, _ => nb24_run e
  | 25, _, _ => nb25_run e
  | 26, _, _ => nb26_run e
  | 27, _, _ => nb27_run e
  | 28, _, _ => nb28_run e
  | 29, _, _ => nb29_run e
  | 30, _, _ => nb30_run e
  | 31, _, _ => nb31_run e
  | 32, _, _ => nb32_run e
  | 33, _, _ => nb33_run e
  | 34, _, _ => nb34_run e
  | 35, _, _ => nb35_run e
  | 36, _, _ => nb36_run e
  | 37, _, _ => nb37_run e
  | 38, _, _ => nb38_run e
  | 39, _, _ => nb39_run e
  | 40, _, _ => nb40_run e
  | 41, _, _ => nb41_run e
  | 42, _, _ => nb42_run e
  | 43, _, _ => nb43_run e
  | 44, _, _ => nb44_run e
  | 45, _, _ => nb45_run e
  | 46, _, _ => nb46_run e
  | 47, _, _ => nb47_run e
  | 48, _, _ => nb48_run e
  | 49, _, _ => nb49_run e
  | 50, _, _ => nb50_run e
  | n + 51, _, h => absurd h (by omega)
end Go.Am
