/-
  begun of package bell.
-/
import Derived.Test.YtlgfopfibopcnaaExplore
import Derived.Maps.OwnSet
import Derived.Maps.RangeWalk
import Derived.WalkKit
namespace Go.Proofs.Ytlgfopfibopcnaa
open Go Go.RowKit Go.Maps Go.Am
set_option linter.unusedVariables false

theorem begunBell_true (w : World) : Calls Try.prog 52 #[] w (fun e w' => e = .returned (.bool true) ∧ Below w.heap.size w w') :=
  calls_runP (σ := fun _ => (.i64, 0)) (n := 1000) (args := []) (us := #[]) w noPrims_ok noFacts_ok (by kernel_rfl) rfl (by kernel_rfl)

end Go.Proofs.Ytlgfopfibopcnaa
