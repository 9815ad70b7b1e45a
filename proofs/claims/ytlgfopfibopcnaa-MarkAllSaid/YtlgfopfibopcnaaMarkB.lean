/-
  begun of package mark.
-/
import Derived.Test.YtlgfopfibopcnaaOf2
namespace Go.Proofs.Ytlgfopfibopcnaa
open Go Go.RowKit Go.Maps Go.Am
set_option linter.unusedVariables false

theorem begunMark_true (w : World) : Calls Try.prog 18 #[] w (fun e w' => e = .returned (.bool true) ∧ Below w.heap.size w w') :=
  calls_runP (σ := fun _ => (.i64, 0)) (n := 400) (args := []) (us := #[]) w ofPrims_ok noFacts_ok (by kernel_rfl) rfl (by kernel_rfl)

end Go.Proofs.Ytlgfopfibopcnaa
