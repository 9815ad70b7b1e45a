/-
  The law MarkForms, in the machine: senders 0 and 1.
-/
import Derived.Test.YtibengibhihgpaaMarkRuns
namespace Go.Proofs.Ytibengibhihgpaa.markForms

theorem all0 : upTo (goes 0) 20 = true := by decide +kernel
theorem all1 : upTo (goes 1) 20 = true := by decide +kernel

end Go.Proofs.Ytibengibhihgpaa.markForms
