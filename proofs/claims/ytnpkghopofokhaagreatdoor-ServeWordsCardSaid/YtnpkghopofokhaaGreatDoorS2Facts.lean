/- Closed facts of the program, by the kernel. -/
import Derived.Test.YtnpkghopofokhaaGreatDoorS2Tab
import Derived.Test.YtnpkghopofokhaaGreatDoorAmRow
import Derived.Test.YtnpkghopofokhaaGreatDoorRows
namespace Go.Proofs.YtnpkghopofokhaaGreatDoor
open Go Go.ChangeShapes Go.WideShapes Go.ChangeAt Go.RowKit
set_option maxRecDepth 100000
theorem own : ownKnob Tryz.prog.godebug = none := by kernel_rfl
theorem laidOut : laidOutB Tryz.prog = true := by kernel_rfl
theorem gErr : Tryz.prog.globalNamed "strconv.ErrSyntax" = some 4 := by kernel_rfl
theorem tErr : (Tryz.prog.globals[4]?).map (·.type) = some 178 := by kernel_rfl
theorem sizeG : Tryz.prog.globals.size = 8 := by kernel_rfl
theorem zErr : ((begin Tryz.prog (fun _ _ => 0) default).world.heap[4]?).bind Obj.row? = some (#[.nilIface], 178) := by kernel_rfl
theorem cells9 : Tryz.prog.cellsOf 9 = 1 := by kernel_rfl
theorem fn3 : Am.pg.fn.get 3 = some Tryz.f3 := by kernel_rfl
theorem body3 : Tryz.f3.body.isSome = true := by kernel_rfl
theorem laidErr : Rows.serveNobodyRow.laid.filter (fun x => x.1 == "strconv.ErrSyntax") = [("strconv.ErrSyntax", Rows.laid_strconv_ErrSyntax)] := by kernel_rfl

theorem params_ok : ∀ t ∈ Tryz.f3.params.toList, Tryz.prog.readableRec t = true ∧ t < Tryz.prog.types.size := fun t ht => by
  rw [Tryz.params3] at ht
  obtain rfl : t = 22 := by simpa using ht
  exact ⟨by kernel_rfl, of_decide_eq_true (by kernel_rfl)⟩
end Go.Proofs.YtnpkghopofokhaaGreatDoor
