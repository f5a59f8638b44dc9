/- What the runs prove of these calls. -/
import Derived.Test.YtajnbfaalonocaaGreatDoorS1Run0
import Derived.Test.YtajnbfaalonocaaGreatDoorS1Run1
import Derived.Test.YtajnbfaalonocaaGreatDoorS1Run2
import Derived.Test.YtajnbfaalonocaaGreatDoorS1Run3
namespace Go.Am
open Go.Proofs
set_option maxRecDepth 100000
set_option maxHeartbeats 4000000
theorem a0_ok : EntOk Tryz.prog a0 := runE_ok fits EsOk.nil a0_run
theorem a1_ok : EntOk Tryz.prog a1 := runE_ok fits EsOk.nil a1_run
theorem a2_ok : EntOk Tryz.prog a2 := runE_ok fits (EsOk.cons a1_ok EsOk.nil) a2_run
theorem a3_ok : EntOk Tryz.prog a3 := runE_ok fits (EsOk.cons a2_ok EsOk.nil) a3_run
theorem a4_ok : EntOk Tryz.prog a4 := runE_ok fits (EsOk.cons a0_ok (EsOk.cons a3_ok EsOk.nil)) a4_run
theorem a5_ok : EntOk Tryz.prog a5 := runE_ok fits EsOk.nil a5_run
theorem a6_ok : EntOk Tryz.prog a6 := runE_ok fits EsOk.nil a6_run
theorem a7_ok : EntOk Tryz.prog a7 := runE_ok fits EsOk.nil a7_run
theorem a8_ok : EntOk Tryz.prog a8 := runE_ok fits (EsOk.cons a7_ok EsOk.nil) a8_run
theorem a9_ok : EntOk Tryz.prog a9 := runE_ok fits (EsOk.cons a8_ok EsOk.nil) a9_run
theorem a10_ok : EntOk Tryz.prog a10 := runE_ok fits (EsOk.cons a9_ok EsOk.nil) a10_run
theorem a11_ok : EntOk Tryz.prog a11 := runE_ok fits EsOk.nil a11_run
theorem a12_ok : EntOk Tryz.prog a12 := runE_ok fits (EsOk.cons a6_ok (EsOk.cons a10_ok (EsOk.cons a11_ok EsOk.nil))) a12_run
theorem a13_ok : EntOk Tryz.prog a13 := runE_ok fits (EsOk.cons a4_ok (EsOk.cons a5_ok (EsOk.cons a12_ok EsOk.nil))) a13_run
end Go.Am
