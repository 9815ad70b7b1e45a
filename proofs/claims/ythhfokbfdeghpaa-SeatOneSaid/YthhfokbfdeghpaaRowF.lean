/-
  What holds of the program as a whole, for every row, in parts.
-/
import Derived.Test.YthhfokbfdeghpaaOpens
namespace Go.Proofs.Ythhfokbfdeghpaa
open Go Go.RowKit
set_option linter.unusedVariables false

theorem and_of {a b : Bool} (h : a = true) (k : b = true) : (a && b) = true := by rw [h, k]; rfl

theorem rowF2 : (laidOutB Try.prog) = true := by kernel_rfl
theorem rowF3 : (mapsRowed Try.prog) = true := by kernel_rfl
theorem rowF7 : ((Try.prog.stops == [])) = true := by kernel_rfl
theorem rowF9 : ((Try.prog.stopKnobs == [])) = true := by kernel_rfl
theorem rowF23 : ((Rows.spanAllRow.plainKeys == Try.prog.plainKeys)) = true := by kernel_rfl
theorem rowF25 : (Try.prog.stopsHeard) = true := by kernel_rfl
theorem rowF26 : (Try.prog.mayEnter) = true := by kernel_rfl
theorem rowF27 : ((Rows.spanAllRow.lifted == Try.prog.liftsFinal)) = true := by kernel_rfl
theorem rowF28 : ((Try.prog.make == some Rows.spanAllRow.make)) = true := by kernel_rfl

end Go.Proofs.Ythhfokbfdeghpaa
