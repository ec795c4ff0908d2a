/-
  The law StoreSplits of almanaclaw20 answers true for every path and every list of users whose bulk is at most 1048576: the evaluator, its soundness, what each function answers, the row and its card. This part: S20Q.
-/
import Derived.Test.YtdiolabaijfolaaGreatDoorCards
import Derived.KernelRfl
set_option linter.all false
namespace Go.Proofs.YtdiolabaijfolaaGreatDoor

theorem noneGoes : Tryz.prog.funcs.any Func.goes = false := by kernel_rfl

theorem goes_none {P : Program} (h : P.funcs.any Func.goes = false) (f : FuncId) : P.goes f = false := by
  unfold Program.goes
  rw [h, Bool.and_false, Bool.or_false, List.any_eq_false]
  intro g _
  cases hg : P.funcs[g]? with
  | none => simp
  | some fn =>
    rw [Array.any_eq_false] at h
    obtain ⟨hi, e⟩ := Array.getElem?_eq_some_iff.1 hg
    have := h g hi
    rw [e] at this
    simpa using this

theorem named3 : Tryz.pinned.checked.prog.funcNamed Rows.storeSplitsUptoRow.func = some 3 := by kernel_rfl

theorem noGo : false = Rows.storeSplitsUptoRow.goesBy Tryz.pinned.checked.prog := by
  have h : Tryz.pinned.checked.prog.goes 3 = false := goes_none (P := Tryz.prog) noneGoes 3
  unfold OpenClaim.goesBy Program.goesAt Program.goesFrom
  rw [named3]
  simp only [Option.any_some, h, Bool.false_or]
  rfl

end Go.Proofs.YtdiolabaijfolaaGreatDoor
