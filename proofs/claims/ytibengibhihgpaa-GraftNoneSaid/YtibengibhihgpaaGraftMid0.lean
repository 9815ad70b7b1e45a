/-
  graft's begun: the run up to its first Set.
-/
import Derived.Test.YtibengibhihgpaaGraftMid
import Derived.KernelRfl
namespace Go.Proofs.Ytibengibhihgpaa.graftNone
open Go Go.RowKit Go.Am

set_option maxRecDepth 100000 in
theorem first : run Try.prog groupPrims noFacts (drawRun Try.prog) 100000 (.code (seqs pre .skip) ⟨.leaf, 95⟩) st0 = .ok (.out .normal act1, st1) := by kernel_rfl

end Go.Proofs.Ytibengibhihgpaa.graftNone
