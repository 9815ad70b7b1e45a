/-
  graft's begun: the run behind its first Set.
-/
import Derived.Test.YtibengibhihgpaaGraftMid
namespace Go.Proofs.Ytibengibhihgpaa.graftNone
open Go Go.RowKit Go.Am

theorem second : secondOk = true := by decide +kernel

end Go.Proofs.Ytibengibhihgpaa.graftNone
