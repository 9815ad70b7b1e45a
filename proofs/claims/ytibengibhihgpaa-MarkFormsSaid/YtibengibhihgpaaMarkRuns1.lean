/-
  The law MarkForms, in the machine: senders 2 and 3.
-/
import Derived.Test.YtibengibhihgpaaMarkRuns
namespace Go.Proofs.Ytibengibhihgpaa.markForms

theorem all2 : upTo (goes 2) 20 = true := by decide +kernel
theorem all3 : upTo (goes 3) 20 = true := by decide +kernel

end Go.Proofs.Ytibengibhihgpaa.markForms
