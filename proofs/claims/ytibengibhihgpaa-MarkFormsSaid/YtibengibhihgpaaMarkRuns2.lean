/-
  The law MarkForms, in the machine: senders 4 and 5.
-/
import Derived.Test.YtibengibhihgpaaMarkRuns
namespace Go.Proofs.Ytibengibhihgpaa.markForms

theorem all4 : upTo (goes 4) 20 = true := by decide +kernel
theorem all5 : upTo (goes 5) 20 = true := by decide +kernel

end Go.Proofs.Ytibengibhihgpaa.markForms
