/-
  The law StoreSplits of almanaclaw20 answers true for every path and every list of users whose bulk is at most 1048576: the evaluator, its soundness, what each function answers, the row and its card. This part: S20W.
-/
import Derived.Test.YtdiolabaijfolaaGreatDoorEd
set_option linter.all false
namespace Go.Ev.S20
open Go Go.Ev
set_option maxRecDepth 100000

/-- The example of chapter 20: run. -/
theorem awake_run (m : Nat) (H : Heap) (bar : Nat) : callN (tabOf EE) (m + 300) (.f 9) [] H bar = some (.ok (.bool true), H) := by kernel_rfl

end Go.Ev.S20
