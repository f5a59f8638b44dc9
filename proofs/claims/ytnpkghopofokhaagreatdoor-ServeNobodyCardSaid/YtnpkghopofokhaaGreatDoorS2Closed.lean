/- The row's closed cells are what the program forces: by the kernel, each apart. -/
import Derived.Test.YtnpkghopofokhaaGreatDoorS2Facts
import Derived.Test.YtnpkghopofokhaaGreatDoorAmGoes
import Derived.Stop.Joined
import Derived.SevenTiedAt
import Derived.Test.YtnpkghopofokhaaGreatDoorCards
namespace Go.Proofs.YtnpkghopofokhaaGreatDoor
open Go Go.ChangeShapes Go.WideShapes Go.ChangeAt Go.RowKit
set_option maxRecDepth 100000
set_option maxHeartbeats 400000000 in
theorem closed : joinedFacts Tryz.pinned.checked.prog 3 Tryz.f3 (OpenSpec.ofChange Rows.serveNobodySpec).bare Rows.serveNobodyRow = true := by
  unfold joinedFacts
  repeat' (with_reducible refine Bool.and_eq_true_iff.mpr ⟨?_, ?_⟩)
  all_goals (as_aux_lemma => kernel_rfl)
theorem wf_text : Rows.serveNobodyRow.wfByText (OpenSpec.ofChange Rows.serveNobodySpec) = true := by kernel_rfl
theorem goesNot : (Tryz.pinned.checked.prog.funcs.toList.any Func.goes) = false := by kernel_rfl
theorem mainIs : Tryz.pinned.checked.prog.mainIs = some (Rows.serveNobodyCard.stood.harness.1, Rows.serveNobodyCard.stood.harness.2.toList) := by kernel_rfl
end Go.Proofs.YtnpkghopofokhaaGreatDoor
