/-
  Package hold: begun.
-/
import Derived.Test.YtonbcchdaboigaaSorted
import Derived.WalkKit
namespace Go.Proofs.Ytonbcchdaboigaa
open Go Go.RowKit
set_option linter.unusedVariables false

theorem begunHold_run : isTrue (Go.Am.run Try.prog sortedPrims Go.Am.noFacts (Go.Am.drawRun Try.prog) 1000000 (.call 22 []) st0) = true := by decide +kernel

theorem begunHold_calls (w : World) : Calls Try.prog 22 #[] w fun e w' => e = .returned (.bool true) ∧ Below w.heap.size w w' :=
  calls_runP (σ := fun _ => (.i64, 0)) (args := []) (us := #[]) w (sortedPrims_ok) Go.Am.noFacts_ok (by kernel_rfl) rfl begunHold_run

end Go.Proofs.Ytonbcchdaboigaa
