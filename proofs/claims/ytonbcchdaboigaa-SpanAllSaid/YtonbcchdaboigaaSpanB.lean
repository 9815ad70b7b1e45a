/-
  Package span: begun.
-/
import Derived.Test.YtonbcchdaboigaaBase
import Derived.WalkKit
namespace Go.Proofs.Ytonbcchdaboigaa
open Go Go.RowKit Go.Am
set_option linter.unusedVariables false

theorem begunSpan_true (w : World) : Calls Try.prog 11 #[] w (fun e w' => e = .returned (.bool true) ∧ Below w.heap.size w w') :=
  calls_runP (σ := fun _ => (.i64, 0)) (n := 1000) (args := []) (us := #[]) w noPrims_ok noFacts_ok (by kernel_rfl) rfl (by kernel_rfl)

end Go.Proofs.Ytonbcchdaboigaa
