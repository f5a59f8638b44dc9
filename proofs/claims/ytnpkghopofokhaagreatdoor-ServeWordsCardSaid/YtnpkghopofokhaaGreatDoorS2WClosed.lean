/- The row's closed cells are what the program forces: by the kernel, each apart. -/
import Derived.Test.YtnpkghopofokhaaGreatDoorS2WFacts
import Derived.Test.YtnpkghopofokhaaGreatDoorAmGoes
import Derived.Stop.Joined
import Derived.SevenTiedAt
import Derived.Test.YtnpkghopofokhaaGreatDoorCards
namespace Go.Proofs.YtnpkghopofokhaaGreatDoor
open Go Go.ChangeShapes Go.WideShapes Go.ChangeAt Go.RowKit
set_option maxRecDepth 100000
set_option maxHeartbeats 400000000 in
theorem closedW : joinedFacts Tryz.pinned.checked.prog 4 Tryz.f4 (OpenSpec.ofChange Rows.serveWordsSpec).bare Rows.serveWordsRow = true := by
  unfold joinedFacts
  repeat' (with_reducible refine Bool.and_eq_true_iff.mpr ⟨?_, ?_⟩)
  all_goals (as_aux_lemma => kernel_rfl)
theorem wf_textW : Rows.serveWordsRow.wfByText (OpenSpec.ofChange Rows.serveWordsSpec) = true := by kernel_rfl
theorem goesNotW : (Tryz.pinned.checked.prog.funcs.toList.any Func.goes) = false := by kernel_rfl
theorem mainIsW : Tryz.pinned.checked.prog.mainIs = some (Rows.serveWordsCard.stood.harness.1, Rows.serveWordsCard.stood.harness.2.toList) := by kernel_rfl
end Go.Proofs.YtnpkghopofokhaaGreatDoor
