/- Closed facts of the program, by the kernel. -/
import Derived.Test.YtnpkghopofokhaaGreatDoorS2W6
import Derived.Test.YtnpkghopofokhaaGreatDoorRows
namespace Go.Proofs.YtnpkghopofokhaaGreatDoor
open Go Go.ChangeShapes Go.WideShapes Go.ChangeAt Go.RowKit
set_option maxRecDepth 100000
theorem laidErrW : Rows.serveWordsRow.laid.filter (fun x => x.1 == "strconv.ErrSyntax") = [("strconv.ErrSyntax", Rows.laid_strconv_ErrSyntax)] := by kernel_rfl
theorem params_okW : ∀ t ∈ Tryz.f4.params.toList, Tryz.prog.readableRec t = true ∧ t < Tryz.prog.types.size := fun t ht => by
  rw [Tryz.params4] at ht
  obtain rfl : t = 9 := by simpa using ht
  exact ⟨by kernel_rfl, of_decide_eq_true (by kernel_rfl)⟩
end Go.Proofs.YtnpkghopofokhaaGreatDoor
