/- Closed facts of the program, by the kernel. -/
import Derived.Test.YtajnbfaalonocaaGreatDoorS1Tab
import Derived.Test.YtajnbfaalonocaaGreatDoorAmRow
import Derived.Test.YtajnbfaalonocaaGreatDoorRows
namespace Go.Proofs.YtajnbfaalonocaaGreatDoor
open Go Go.ChangeShapes Go.WideShapes Go.ChangeAt Go.RowKit
set_option maxRecDepth 100000
theorem own : ownKnob Tryz.prog.godebug = none := by kernel_rfl
theorem laidOut : laidOutB Tryz.prog = true := by kernel_rfl
theorem gErr : Tryz.prog.globalNamed "strconv.ErrSyntax" = some 1 := by kernel_rfl
theorem tErr : (Tryz.prog.globals[1]?).map (·.type) = some 203 := by kernel_rfl
theorem sizeG : Tryz.prog.globals.size = 8 := by kernel_rfl
theorem zErr : ((begin Tryz.prog (fun _ _ => 0) default).world.heap[1]?).bind Obj.row? = some (#[.nilIface], 203) := by kernel_rfl
theorem laidErr : Rows.shipNobodyRow.laid.filter (fun x => x.1 == "strconv.ErrSyntax") = [("strconv.ErrSyntax", Rows.laid_strconv_ErrSyntax)] := by kernel_rfl
theorem params_ok : ∀ t ∈ Tryz.f3.params.toList, Tryz.prog.readableRec t = true ∧ t < Tryz.prog.types.size := fun t ht => by
  rw [Tryz.params3] at ht
  obtain rfl : t = 27 := by simpa using ht
  exact ⟨by kernel_rfl, of_decide_eq_true (by kernel_rfl)⟩
end Go.Proofs.YtajnbfaalonocaaGreatDoor
