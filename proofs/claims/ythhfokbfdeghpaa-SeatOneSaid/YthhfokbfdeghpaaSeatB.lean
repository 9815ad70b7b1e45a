/-
  begun of package seat.
-/
import Derived.Test.YthhfokbfdeghpaaPhase2
import Derived.Test.YthhfokbfdeghpaaBase
namespace Go.Proofs.Ythhfokbfdeghpaa
open Go Go.RowKit Go.Am
set_option linter.unusedVariables false

theorem begunSeat_true (w : World) : Calls Try.prog 43 #[] w (fun e w' => e = .returned (.bool true) ∧ Below w.heap.size w w') :=
  calls_runP (σ := fun _ => (.i64, 0)) (n := 100000) (args := []) (us := #[]) w phasePrims_ok noFacts_ok (by kernel_rfl) rfl (by kernel_rfl)

end Go.Proofs.Ythhfokbfdeghpaa
