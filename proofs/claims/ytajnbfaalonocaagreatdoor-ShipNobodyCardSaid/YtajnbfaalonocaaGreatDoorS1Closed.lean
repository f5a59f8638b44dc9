/- The row's closed cells are what the program forces: by the kernel, each apart. -/
import Derived.Test.YtajnbfaalonocaaGreatDoorS1Facts
import Derived.Test.YtajnbfaalonocaaGreatDoorAmGoes
import Derived.Stop.Joined
import Derived.SevenTiedAt
import Derived.Test.YtajnbfaalonocaaGreatDoorCards
namespace Go.Proofs.YtajnbfaalonocaaGreatDoor
open Go Go.ChangeShapes Go.WideShapes Go.ChangeAt Go.RowKit
set_option maxRecDepth 100000
set_option maxHeartbeats 400000000 in
theorem closed : joinedFacts Tryz.pinned.checked.prog 3 Tryz.f3 (OpenSpec.ofChange Rows.shipNobodySpec).bare Rows.shipNobodyRow = true := by
  unfold joinedFacts
  repeat' (with_reducible refine Bool.and_eq_true_iff.mpr ⟨?_, ?_⟩)
  all_goals (as_aux_lemma => kernel_rfl)
theorem wf_text : Rows.shipNobodyRow.wfByText (OpenSpec.ofChange Rows.shipNobodySpec) = true := by kernel_rfl
theorem goesNot : (Tryz.pinned.checked.prog.funcs.toList.any Func.goes) = false := by kernel_rfl
theorem mainIs : Tryz.pinned.checked.prog.mainIs = some (Rows.shipNobodyCard.stood.harness.1, Rows.shipNobodyCard.stood.harness.2.toList) := by kernel_rfl
end Go.Proofs.YtajnbfaalonocaaGreatDoor
