/- What the runs prove of these calls. -/
import Derived.Test.YtnpkghopofokhaaGreatDoorS2Run0
import Derived.Test.YtnpkghopofokhaaGreatDoorS2Run1
import Derived.Test.YtnpkghopofokhaaGreatDoorS2Run2
import Derived.Test.YtnpkghopofokhaaGreatDoorS2Run3
namespace Go.Am
open Go.Proofs
set_option maxRecDepth 100000
set_option maxHeartbeats 4000000
theorem a0_ok : EntOk Tryz.prog a0 := runE_ok fits EsOk.nil a0_run
theorem a1_ok : EntOk Tryz.prog a1 := runE_ok fits EsOk.nil a1_run
theorem a2_ok : EntOk Tryz.prog a2 := runE_ok fits EsOk.nil a2_run
theorem a3_ok : EntOk Tryz.prog a3 := runE_ok fits (EsOk.cons a2_ok EsOk.nil) a3_run
theorem a4_ok : EntOk Tryz.prog a4 := runE_ok fits (EsOk.cons a0_ok (EsOk.cons a1_ok (EsOk.cons a3_ok EsOk.nil))) a4_run
theorem a5_ok : EntOk Tryz.prog a5 := runE_ok fits EsOk.nil a5_run
theorem a6_ok : EntOk Tryz.prog a6 := runE_ok fits (EsOk.cons a5_ok EsOk.nil) a6_run
theorem a7_ok : EntOk Tryz.prog a7 := runE_ok fits (EsOk.cons a6_ok EsOk.nil) a7_run
theorem a8_ok : EntOk Tryz.prog a8 := runE_ok fits EsOk.nil a8_run
theorem a9_ok : EntOk Tryz.prog a9 := runE_ok fits EsOk.nil a9_run
theorem a10_ok : EntOk Tryz.prog a10 := runE_ok fits (EsOk.cons a9_ok EsOk.nil) a10_run
theorem a11_ok : EntOk Tryz.prog a11 := runE_ok fits EsOk.nil a11_run
theorem a12_ok : EntOk Tryz.prog a12 := runE_ok fits EsOk.nil a12_run
theorem a13_ok : EntOk Tryz.prog a13 := runE_ok fits EsOk.nil a13_run
theorem a14_ok : EntOk Tryz.prog a14 := runE_ok fits EsOk.nil a14_run
theorem a15_ok : EntOk Tryz.prog a15 := runE_ok fits EsOk.nil a15_run
theorem a16_ok : EntOk Tryz.prog a16 := runE_ok fits (EsOk.cons a4_ok (EsOk.cons a7_ok (EsOk.cons a8_ok (EsOk.cons a10_ok (EsOk.cons a11_ok (EsOk.cons a12_ok (EsOk.cons a13_ok (EsOk.cons a14_ok (EsOk.cons a15_ok EsOk.nil))))))))) a16_run
theorem a17_ok : EntOk Tryz.prog a17 := runE_ok fits (EsOk.cons a16_ok EsOk.nil) a17_run
end Go.Am
