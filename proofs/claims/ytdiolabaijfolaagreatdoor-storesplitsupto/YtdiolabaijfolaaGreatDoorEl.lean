/-
  The law StoreSplits of almanaclaw20 answers true for every path and every list of users whose bulk is at most 1048576: the evaluator, its soundness, what each function answers, the row and its card. This part: S20P.
-/
import Derived.Test.YtdiolabaijfolaaGreatDoorCards
import Derived.WalkKit
import Derived.ProofKit
import Derived.Deep.DeepHandedRow
set_option linter.all false
namespace Go.Proofs.YtdiolabaijfolaaGreatDoor
open Go.ChangeShapes Go.WideShapes Go.ChangeAt Go.RowKit

set_option maxHeartbeats 40000000 in
theorem closedFacts : joinedFacts Tryz.pinned.checked.prog 3 Tryz.f3 (Rows.OpenSpec.upto Rows.storeSplitsSpec).bare Rows.storeSplitsUptoRow = true := by
  unfold joinedFacts
  simp only [Bool.and_eq_true]
  repeat' apply And.intro
  all_goals (as_aux_lemma => kernel_rfl)

end Go.Proofs.YtdiolabaijfolaaGreatDoor
