/-
  What graft's begun comes to behind its first Set, and the run so far.
-/
import Derived.Test.YtdhnfhhmacjajaaJ4
import Derived.Test.YtdhnfhhmacjajaaJ9
import Derived.Test.YtdhnfhhmacjajaaJ10
import Derived.KernelRfl
import Derived.Test.YtdhnfhhmacjajaaProg
import Derived.Test.YtdhnfhhmacjajaaRows
import Derived.WalkKit
import Derived.ProofKit
import Derived.OpenShut
import Derived.ShutString
import Derived.WideKeyArr2
import Derived.ChangeSlices
import Derived.ChangeOld
import Derived.Carry

namespace Go.Proofs.Ytdhnfhhmacjajaa.graftNone
open Go Go.RowKit Go.Am
set_option linter.unusedVariables false
set_option linter.unusedSimpArgs false

noncomputable def act1 : AAct := ⟨(.node (.node (.node (.node (.node .leaf (some (.ptr 1 0)) .leaf) none (.node .leaf (some (.ptr 7 0)) .leaf)) (some (.ptr 7 0)) (.node (.node .leaf (some (.lit (.bool true))) .leaf) none (.node .leaf (some (.agg [(.lit (.int .i64 15)), (.lit (.int .i64 1))])) .leaf))) (some (.ptr 1 0)) (.node (.node (.node .leaf (some (.tup [(.ptr 7 0), (.lit (.bool true))])) .leaf) none (.node .leaf (some (.lit (.bool false))) .leaf)) (some (.lit (.int .i64 0))) (.node (.node .leaf (some (.lit (.bool false))) .leaf) (some (.ptr 3 0)) .leaf))) (some (.lit (.bool false))) (.node (.node (.node (.node .leaf (some (.ptr 3 0)) .leaf) none (.node .leaf (some (.lit (.bool false))) .leaf)) (some (.lit (.bool true))) (.node (.node .leaf (some (.lit (.bool true))) .leaf) (some (.ptr 1 0)) (.node .leaf (some (.lit (.int .i64 0))) .leaf))) (some (.ptr 3 0)) (.node (.node (.node .leaf (some (.ptr 7 0)) .leaf) none (.node .leaf (some (.ptr 7 0)) .leaf)) none (.node (.node .leaf (some (.lit (.bool false))) .leaf) (some (.tup [(.ptr 7 0), (.lit (.bool true))])) .leaf)))), 95⟩

noncomputable def st1 : AState := ⟨(.node (.node (.node (.node (.node (.node (.node .leaf (some (.cells [(.lit (.int .i64 0)), (.lit (.int .i64 0)), (.lit (.int .i64 0))] false)) .leaf) (some (.cells [(.lit (.int .i64 0))] true)) (.node .leaf (some (.cells [(.lit (.int .i64 0)), (.lit (.int .i64 0)), (.lit (.int .i64 0))] false)) .leaf)) (some (.cells [(.lit (.int .i64 15)), (.lit (.int .i64 1))] false)) (.node (.node .leaf (some (.cells [(.lit (.int .i64 0)), (.lit (.int .i64 0)), (.lit (.int .i64 0))] false)) .leaf) (some (.cells [(.lit (.int .i64 0)), (.lit (.int .i64 0)), (.lit (.int .i64 0))] false)) (.node .leaf (some (.cells [(.lit (.int .i64 0)), (.lit (.int .i64 0))] false)) .leaf))) (some (.cells [(.ptr 1 0), (.ptr 3 0), (.lit (.int .i64 0)), (.map 9), (.map 5), (.map 6)] false)) (.node (.node (.node .leaf (some (.cells [(.lit (.int .i64 0)), (.lit (.int .i64 0))] false)) .leaf) (some (.cells [(.lit (.int .i64 0)), (.lit (.int .i64 0)), (.lit (.int .i64 0))] false)) (.node .leaf (some (.cells [(.lit (.int .i64 0)), (.lit (.int .i64 0)), (.lit (.int .i64 0))] false)) .leaf)) (some (.cells [(.lit (.int .i64 0)), (.lit (.int .i64 0))] false)) (.node (.node .leaf (some (.cells [(.lit (.int .i64 0)), (.lit (.int .i64 0)), (.lit (.int .i64 0))] false)) .leaf) (some (.cells [(.lit (.int .i64 2)), (.lit (.int .i64 15)), (.lit (.int .i64 1))] false)) (.node .leaf (some (.cells [(.lit (.int .i64 1)), (.lit (.int .i64 2)), (.lit (.int .i64 0))] false)) .leaf)))) (some (.cells [(.lit (.int .i64 0)), (.slice 2 0 8 (.known 8))] false)) (.node (.node (.node (.node .leaf (some (.cells [(.lit (.int .i64 0)), (.lit (.int .i64 0)), (.lit (.int .i64 0))] false)) .leaf) (some (.iter (some 6) 0 [] 0)) (.node .leaf (some (.cells [(.lit (.int .i64 0)), (.lit (.int .i64 0)), (.lit (.int .i64 0))] false)) .leaf)) (some (.cells [(.lit (.int .i64 0)), (.lit (.int .i64 0))] false)) (.node (.node .leaf (some (.cells [(.lit (.int .i64 0)), (.lit (.int .i64 0)), (.lit (.int .i64 0))] false)) .leaf) (some (.cells [(.lit (.int .i64 15)), (.lit (.int .i64 1))] false)) (.node .leaf (some (.cells [(.lit (.int .i64 0)), (.lit (.int .i64 0)), (.lit (.int .i64 0))] false)) .leaf))) (some (.cells [(.lit (.int .i64 0)), (.lit (.int .i64 0))] false)) (.node (.node (.node .leaf (some (.cells [(.lit (.int .i64 0)), (.lit (.int .i64 0)), (.lit (.int .i64 0))] false)) .leaf) (some (.cells [(.lit (.int .i64 0)), (.lit (.int .i64 0)), (.lit (.int .i64 0))] false)) (.node .leaf (some (.cells [(.lit (.int .i64 0)), (.lit (.int .i64 0)), (.lit (.int .i64 0))] false)) .leaf)) (some (.cells [(.lit (.int .i64 0)), (.lit (.int .i64 0))] false)) (.node (.node .leaf (some (.cells [(.lit (.int .i64 0)), (.lit (.int .i64 0))] false)) .leaf) (some (.cells [(.lit (.int .i64 0)), (.lit (.int .i64 0)), (.lit (.int .i64 0))] false)) (.node .leaf (some (.cells [(.lit (.int .i64 1)), (.lit (.int .i64 1)), (.lit (.int .i64 0))] false)) .leaf))))) (some (.cells [(.slice 0 0 20 (.known 20)), (.lit (.int .i64 20))] false)) (.node (.node (.node (.node (.node .leaf (some (.cells [(.lit (.int .i64 0)), (.lit (.int .i64 0)), (.lit (.int .i64 0))] false)) .leaf) (some (.cells [(.lit (.int .i64 0))] true)) (.node .leaf (some (.cells [(.lit (.int .i64 0)), (.lit (.int .i64 0)), (.lit (.int .i64 0))] false)) .leaf)) (some (.cells [(.lit (.int .i64 0)), (.lit (.int .i64 0))] false)) (.node (.node .leaf (some (.cells [(.lit (.int .i64 0)), (.lit (.int .i64 0))] false)) .leaf) (some (.cells [(.lit (.int .i64 0)), (.lit (.int .i64 0)), (.lit (.int .i64 0))] false)) (.node .leaf (some (.cells [(.lit (.int .i64 0)), (.lit (.int .i64 0)), (.lit (.int .i64 0))] false)) .leaf))) (some (.map [⟨(.int .i64 3), (.agg [(.lit (.int .i64 15)), (.lit (.int .i64 1))]), 0⟩] 1)) (.node (.node (.node .leaf (some (.cells [(.lit (.int .i64 0)), (.lit (.int .i64 0)), (.lit (.int .i64 0))] false)) .leaf) (some (.cells [(.lit (.int .i64 0)), (.lit (.int .i64 0))] false)) (.node .leaf (some (.cells [(.lit (.int .i64 0)), (.lit (.int .i64 0)), (.lit (.int .i64 0))] false)) .leaf)) (some (.cells [(.lit (.int .i64 0)), (.lit (.int .i64 0))] false)) (.node (.node .leaf (some (.cells [(.lit (.int .i64 0)), (.lit (.int .i64 0)), (.lit (.int .i64 0))] false)) .leaf) (some (.cells [(.lit (.int .i64 0)), (.lit (.int .i64 0)), (.lit (.int .i64 0))] false)) (.node .leaf (some (.cells [(.lit (.int .i64 1)), (.lit (.int .i64 1)), (.lit (.int .i64 0))] false)) .leaf)))) (some (.map [⟨(.int .i64 0), (.lit (.int .i64 1)), 0⟩] 1)) (.node (.node (.node (.node .leaf (some (.cells [(.lit (.int .i64 0)), (.lit (.int .i64 0)), (.lit (.int .i64 0))] false)) .leaf) (some (.cells [(.lit (.int .i64 0)), (.lit (.int .i64 0)), (.lit (.int .i64 0))] false)) (.node .leaf (some (.cells [(.lit (.int .i64 0)), (.lit (.int .i64 0))] false)) .leaf)) (some (.cells [(.lit (.int .i64 0)), (.lit (.int .i64 0))] false)) (.node (.node .leaf (some (.cells [(.lit (.int .i64 0)), (.lit (.int .i64 0)), (.lit (.int .i64 0))] false)) .leaf) (some (.cells [(.lit (.int .i64 2)), (.lit (.int .i64 15)), (.lit (.int .i64 1))] false)) (.node .leaf (some (.cells [(.lit (.int .i64 1)), (.lit (.int .i64 2)), (.lit (.int .i64 0))] false)) .leaf))) (some (.cells [(.lit (.int .i64 0)), (.lit (.int .i64 0))] false)) (.node (.node (.node .leaf (some (.cells [(.lit (.int .i64 0)), (.lit (.int .i64 0)), (.lit (.int .i64 0))] false)) .leaf) (some (.cells [(.lit (.int .i64 0)), (.lit (.int .i64 0)), (.lit (.int .i64 0))] false)) (.node .leaf (some (.cells [(.lit (.int .i64 0)), (.lit (.int .i64 0)), (.lit (.int .i64 0))] false)) .leaf)) (some (.cells [(.lit (.int .i64 0))] true)) (.node (.node .leaf (some (.cells [(.lit (.int .i64 0)), (.lit (.int .i64 0)), (.lit (.int .i64 0))] false)) .leaf) (some (.cells [(.lit (.int .i64 0)), (.lit (.int .i64 0))] false)) .leaf))))) (some (.cells [(.lit (.int .u8 1)), (.lit (.int .u8 16)), (.lit (.int .u8 0)), (.lit (.int .u8 0)), (.lit (.int .u8 0)), (.lit (.int .u8 0)), (.lit (.int .u8 0)), (.lit (.int .u8 0)), (.lit (.int .u8 0)), (.lit (.int .u8 0)), (.lit (.int .u8 0)), (.lit (.int .u8 0)), (.lit (.int .u8 0)), (.lit (.int .u8 0)), (.lit (.int .u8 0)), (.lit (.int .u8 0)), (.lit (.int .u8 0)), (.lit (.int .u8 0)), (.lit (.int .u8 0)), (.lit (.int .u8 0)), (.lit (.int .u8 0)), (.lit (.int .u8 0)), (.lit (.int .u8 0)), (.lit (.int .u8 0)), (.lit (.int .u8 0)), (.lit (.int .u8 0)), (.lit (.int .u8 0)), (.lit (.int .u8 0)), (.lit (.int .u8 0)), (.lit (.int .u8 0)), (.lit (.int .u8 0)), (.lit (.int .u8 0)), (.lit (.int .u8 0)), (.lit (.int .u8 0)), (.lit (.int .u8 0)), (.lit (.int .u8 0)), (.lit (.int .u8 0)), (.lit (.int .u8 0)), (.lit (.int .u8 0)), (.lit (.int .u8 0)), (.lit (.int .u8 0)), (.lit (.int .u8 0)), (.lit (.int .u8 0)), (.lit (.int .u8 0)), (.lit (.int .u8 0)), (.lit (.int .u8 0)), (.lit (.int .u8 0)), (.lit (.int .u8 0)), (.lit (.int .u8 0)), (.lit (.int .u8 0)), (.lit (.int .u8 0)), (.lit (.int .u8 0)), (.lit (.int .u8 0)), (.lit (.int .u8 0)), (.lit (.int .u8 0)), (.lit (.int .u8 0)), (.lit (.int .u8 0)), (.lit (.int .u8 0)), (.lit (.int .u8 0)), (.lit (.int .u8 0)), (.lit (.int .u8 0)), (.lit (.int .u8 0)), (.lit (.int .u8 0)), (.lit (.int .u8 0)), (.lit (.int .u8 0)), (.lit (.int .u8 0)), (.lit (.int .u8 0)), (.lit (.int .u8 0)), (.lit (.int .u8 0)), (.lit (.int .u8 0)), (.lit (.int .u8 0)), (.lit (.int .u8 0)), (.lit (.int .u8 0)), (.lit (.int .u8 0)), (.lit (.int .u8 0)), (.lit (.int .u8 0)), (.lit (.int .u8 0)), (.lit (.int .u8 0)), (.lit (.int .u8 0)), (.lit (.int .u8 0)), (.lit (.int .u8 0)), (.lit (.int .u8 0)), (.lit (.int .u8 0)), (.lit (.int .u8 0)), (.lit (.int .u8 0)), (.lit (.int .u8 0)), (.lit (.int .u8 0)), (.lit (.int .u8 0)), (.lit (.int .u8 0)), (.lit (.int .u8 0)), (.lit (.int .u8 0)), (.lit (.int .u8 0)), (.lit (.int .u8 0)), (.lit (.int .u8 0)), (.lit (.int .u8 0)), (.lit (.int .u8 0)), (.lit (.int .u8 0)), (.lit (.int .u8 0)), (.lit (.int .u8 0)), (.lit (.int .u8 0)), (.lit (.int .u8 0)), (.lit (.int .u8 0)), (.lit (.int .u8 0)), (.lit (.int .u8 0)), (.lit (.int .u8 0)), (.lit (.int .u8 0)), (.lit (.int .u8 0)), (.lit (.int .u8 0)), (.lit (.int .u8 0)), (.lit (.int .u8 0)), (.lit (.int .u8 0)), (.lit (.int .u8 0)), (.lit (.int .u8 0)), (.lit (.int .u8 0)), (.lit (.int .u8 0)), (.lit (.int .u8 0)), (.lit (.int .u8 0)), (.lit (.int .u8 0)), (.lit (.int .u8 0)), (.lit (.int .u8 0)), (.lit (.int .u8 0)), (.lit (.int .u8 0)), (.lit (.int .u8 0)), (.lit (.int .u8 0)), (.lit (.int .u8 0)), (.lit (.int .u8 0)), (.lit (.int .u8 0)), (.lit (.int .u8 0)), (.lit (.int .u8 1)), (.lit (.int .u8 32)), (.lit (.int .u8 0)), (.lit (.int .u8 0)), (.lit (.int .u8 0)), (.lit (.int .u8 0)), (.lit (.int .u8 0)), (.lit (.int .u8 0)), (.lit (.int .u8 0)), (.lit (.int .u8 0)), (.lit (.int .u8 0)), (.lit (.int .u8 0)), (.lit (.int .u8 0)), (.lit (.int .u8 0)), (.lit (.int .u8 0)), (.lit (.int .u8 0)), (.lit (.int .u8 0)), (.lit (.int .u8 0)), (.lit (.int .u8 0)), (.lit (.int .u8 0)), (.lit (.int .u8 0)), (.lit (.int .u8 0)), (.lit (.int .u8 0)), (.lit (.int .u8 0)), (.lit (.int .u8 0)), (.lit (.int .u8 0)), (.lit (.int .u8 0)), (.lit (.int .u8 0)), (.lit (.int .u8 0)), (.lit (.int .u8 0)), (.lit (.int .u8 0)), (.lit (.int .u8 0)), (.lit (.int .u8 0)), (.lit (.int .u8 0)), (.lit (.int .u8 0)), (.lit (.int .u8 0)), (.lit (.int .u8 0)), (.lit (.int .u8 0)), (.lit (.int .u8 0)), (.lit (.int .u8 0)), (.lit (.int .u8 0)), (.lit (.int .u8 0)), (.lit (.int .u8 0)), (.lit (.int .u8 0)), (.lit (.int .u8 0)), (.lit (.int .u8 0)), (.lit (.int .u8 0)), (.lit (.int .u8 0)), (.lit (.int .u8 0)), (.lit (.int .u8 0)), (.lit (.int .u8 0)), (.lit (.int .u8 0)), (.lit (.int .u8 0)), (.lit (.int .u8 0)), (.lit (.int .u8 0)), (.lit (.int .u8 0)), (.lit (.int .u8 0)), (.lit (.int .u8 0)), (.lit (.int .u8 0)), (.lit (.int .u8 0)), (.lit (.int .u8 0)), (.lit (.int .u8 0)), (.lit (.int .u8 0)), (.lit (.int .u8 0)), (.lit (.int .u8 0)), (.lit (.int .u8 0)), (.lit (.int .u8 0)), (.lit (.int .u8 0)), (.lit (.int .u8 0)), (.lit (.int .u8 0)), (.lit (.int .u8 0)), (.lit (.int .u8 0)), (.lit (.int .u8 0)), (.lit (.int .u8 0)), (.lit (.int .u8 0)), (.lit (.int .u8 0)), (.lit (.int .u8 0)), (.lit (.int .u8 0)), (.lit (.int .u8 0)), (.lit (.int .u8 0)), (.lit (.int .u8 0)), (.lit (.int .u8 0)), (.lit (.int .u8 0)), (.lit (.int .u8 0)), (.lit (.int .u8 0)), (.lit (.int .u8 0)), (.lit (.int .u8 0)), (.lit (.int .u8 0)), (.lit (.int .u8 0)), (.lit (.int .u8 0)), (.lit (.int .u8 0)), (.lit (.int .u8 0)), (.lit (.int .u8 0)), (.lit (.int .u8 0)), (.lit (.int .u8 0)), (.lit (.int .u8 0)), (.lit (.int .u8 0)), (.lit (.int .u8 0)), (.lit (.int .u8 0)), (.lit (.int .u8 0)), (.lit (.int .u8 0)), (.lit (.int .u8 0)), (.lit (.int .u8 0)), (.lit (.int .u8 0)), (.lit (.int .u8 0)), (.lit (.int .u8 0)), (.lit (.int .u8 0)), (.lit (.int .u8 0)), (.lit (.int .u8 0)), (.lit (.int .u8 0)), (.lit (.int .u8 0)), (.lit (.int .u8 0)), (.lit (.int .u8 0)), (.lit (.int .u8 0)), (.lit (.int .u8 0)), (.lit (.int .u8 0)), (.lit (.int .u8 0)), (.lit (.int .u8 0)), (.lit (.int .u8 0)), (.lit (.int .u8 0)), (.lit (.int .u8 0)), (.lit (.int .u8 0)), (.lit (.int .u8 0)), (.lit (.int .u8 0)), (.lit (.int .u8 0)), (.lit (.int .u8 0)), (.lit (.int .u8 0)), (.lit (.int .u8 0)), (.lit (.int .u8 0)), (.lit (.int .u8 0)), (.lit (.int .u8 0)), (.lit (.int .u8 0)), (.lit (.int .u8 0)), (.lit (.int .u8 0)), (.lit (.int .u8 0)), (.lit (.int .u8 0)), (.lit (.int .u8 0)), (.lit (.int .u8 0)), (.lit (.int .u8 0)), (.lit (.int .u8 0)), (.lit (.int .u8 0)), (.lit (.int .u8 0)), (.lit (.int .u8 0)), (.lit (.int .u8 0)), (.lit (.int .u8 0)), (.lit (.int .u8 0)), (.lit (.int .u8 0)), (.lit (.int .u8 0)), (.lit (.int .u8 0)), (.lit (.int .u8 0)), (.lit (.int .u8 0)), (.lit (.int .u8 0)), (.lit (.int .u8 6)), (.lit (.int .u8 240)), (.lit (.int .u8 0)), (.lit (.int .u8 0)), (.lit (.int .u8 0)), (.lit (.int .u8 0)), (.lit (.int .u8 0)), (.lit (.int .u8 0)), (.lit (.int .u8 0)), (.lit (.int .u8 0)), (.lit (.int .u8 0)), (.lit (.int .u8 0)), (.lit (.int .u8 0)), (.lit (.int .u8 0)), (.lit (.int .u8 0)), (.lit (.int .u8 0)), (.lit (.int .u8 0)), (.lit (.int .u8 0)), (.lit (.int .u8 0)), (.lit (.int .u8 0)), (.lit (.int .u8 0)), (.lit (.int .u8 0)), (.lit (.int .u8 0)), (.lit (.int .u8 0)), (.lit (.int .u8 0)), (.lit (.int .u8 0)), (.lit (.int .u8 0)), (.lit (.int .u8 0)), (.lit (.int .u8 0)), (.lit (.int .u8 0)), (.lit (.int .u8 0)), (.lit (.int .u8 0)), (.lit (.int .u8 0)), (.lit (.int .u8 0)), (.lit (.int .u8 0)), (.lit (.int .u8 0)), (.lit (.int .u8 0)), (.lit (.int .u8 0)), (.lit (.int .u8 0)), (.lit (.int .u8 0)), (.lit (.int .u8 0)), (.lit (.int .u8 0)), (.lit (.int .u8 0)), (.lit (.int .u8 0)), (.lit (.int .u8 0)), (.lit (.int .u8 0)), (.lit (.int .u8 0)), (.lit (.int .u8 0)), (.lit (.int .u8 0)), (.lit (.int .u8 0)), (.lit (.int .u8 0)), (.lit (.int .u8 0)), (.lit (.int .u8 0)), (.lit (.int .u8 0)), (.lit (.int .u8 0)), (.lit (.int .u8 0)), (.lit (.int .u8 0)), (.lit (.int .u8 0)), (.lit (.int .u8 0)), (.lit (.int .u8 0)), (.lit (.int .u8 0)), (.lit (.int .u8 0)), (.lit (.int .u8 0)), (.lit (.int .u8 0)), (.lit (.int .u8 0)), (.lit (.int .u8 0)), (.lit (.int .u8 0)), (.lit (.int .u8 0)), (.lit (.int .u8 0)), (.lit (.int .u8 0)), (.lit (.int .u8 0)), (.lit (.int .u8 0)), (.lit (.int .u8 0)), (.lit (.int .u8 0)), (.lit (.int .u8 0)), (.lit (.int .u8 0)), (.lit (.int .u8 0)), (.lit (.int .u8 0)), (.lit (.int .u8 0)), (.lit (.int .u8 0)), (.lit (.int .u8 0)), (.lit (.int .u8 0)), (.lit (.int .u8 0)), (.lit (.int .u8 0)), (.lit (.int .u8 0)), (.lit (.int .u8 0)), (.lit (.int .u8 0)), (.lit (.int .u8 0)), (.lit (.int .u8 0)), (.lit (.int .u8 0)), (.lit (.int .u8 0)), (.lit (.int .u8 0)), (.lit (.int .u8 0)), (.lit (.int .u8 0)), (.lit (.int .u8 0)), (.lit (.int .u8 0)), (.lit (.int .u8 0)), (.lit (.int .u8 0)), (.lit (.int .u8 0)), (.lit (.int .u8 0)), (.lit (.int .u8 0)), (.lit (.int .u8 0)), (.lit (.int .u8 0)), (.lit (.int .u8 0)), (.lit (.int .u8 0)), (.lit (.int .u8 0)), (.lit (.int .u8 0)), (.lit (.int .u8 0)), (.lit (.int .u8 0)), (.lit (.int .u8 0)), (.lit (.int .u8 0)), (.lit (.int .u8 0)), (.lit (.int .u8 0)), (.lit (.int .u8 0)), (.lit (.int .u8 0)), (.lit (.int .u8 0)), (.lit (.int .u8 0)), (.lit (.int .u8 0)), (.lit (.int .u8 0)), (.lit (.int .u8 0)), (.lit (.int .u8 0)), (.lit (.int .u8 0)), (.lit (.int .u8 0)), (.lit (.int .u8 0)), (.lit (.int .u8 0)), (.lit (.int .u8 0)), (.lit (.int .u8 0)), (.lit (.int .u8 0)), (.lit (.int .u8 0)), (.lit (.int .u8 0)), (.lit (.int .u8 0)), (.lit (.int .u8 0)), (.lit (.int .u8 0)), (.lit (.int .u8 0)), (.lit (.int .u8 0)), (.lit (.int .u8 0)), (.lit (.int .u8 0)), (.lit (.int .u8 0)), (.lit (.int .u8 0)), (.lit (.int .u8 0)), (.lit (.int .u8 0)), (.lit (.int .u8 0)), (.lit (.int .u8 0)), (.lit (.int .u8 0)), (.lit (.int .u8 0)), (.lit (.int .u8 0)), (.lit (.int .u8 0)), (.lit (.int .u8 0)), (.lit (.int .u8 0)), (.lit (.int .u8 0)), (.lit (.int .u8 0)), (.lit (.int .u8 0)), (.lit (.int .u8 0)), (.lit (.int .u8 0)), (.lit (.int .u8 0)), (.lit (.int .u8 0)), (.lit (.int .u8 0)), (.lit (.int .u8 0)), (.lit (.int .u8 0)), (.lit (.int .u8 0)), (.lit (.int .u8 0)), (.lit (.int .u8 0)), (.lit (.int .u8 0)), (.lit (.int .u8 0)), (.lit (.int .u8 0)), (.lit (.int .u8 0)), (.lit (.int .u8 0)), (.lit (.int .u8 0)), (.lit (.int .u8 0)), (.lit (.int .u8 0)), (.lit (.int .u8 0)), (.lit (.int .u8 0)), (.lit (.int .u8 0)), (.lit (.int .u8 0)), (.lit (.int .u8 0)), (.lit (.int .u8 0)), (.lit (.int .u8 0)), (.lit (.int .u8 0)), (.lit (.int .u8 0)), (.lit (.int .u8 0)), (.lit (.int .u8 0)), (.lit (.int .u8 0)), (.lit (.int .u8 0)), (.lit (.int .u8 0)), (.lit (.int .u8 0)), (.lit (.int .u8 0)), (.lit (.int .u8 0)), (.lit (.int .u8 0)), (.lit (.int .u8 0)), (.lit (.int .u8 0)), (.lit (.int .u8 0)), (.lit (.int .u8 0)), (.lit (.int .u8 0)), (.lit (.int .u8 0)), (.lit (.int .u8 0)), (.lit (.int .u8 0)), (.lit (.int .u8 0)), (.lit (.int .u8 0)), (.lit (.int .u8 0)), (.lit (.int .u8 0)), (.lit (.int .u8 0)), (.lit (.int .u8 0)), (.lit (.int .u8 0)), (.lit (.int .u8 0)), (.lit (.int .u8 0)), (.lit (.int .u8 0)), (.lit (.int .u8 0)), (.lit (.int .u8 0)), (.lit (.int .u8 0)), (.lit (.int .u8 0)), (.lit (.int .u8 0)), (.lit (.int .u8 0)), (.lit (.int .u8 0)), (.lit (.int .u8 0)), (.lit (.int .u8 0)), (.lit (.int .u8 0)), (.lit (.int .u8 0)), (.lit (.int .u8 0)), (.lit (.int .u8 0)), (.lit (.int .u8 0)), (.lit (.int .u8 0)), (.lit (.int .u8 0)), (.lit (.int .u8 0)), (.lit (.int .u8 0)), (.lit (.int .u8 0)), (.lit (.int .u8 0)), (.lit (.int .u8 0)), (.lit (.int .u8 0)), (.lit (.int .u8 0)), (.lit (.int .u8 0)), (.lit (.int .u8 0)), (.lit (.int .u8 0)), (.lit (.int .u8 0)), (.lit (.int .u8 0)), (.lit (.int .u8 0)), (.lit (.int .u8 0)), (.lit (.int .u8 0)), (.lit (.int .u8 0)), (.lit (.int .u8 0)), (.lit (.int .u8 0)), (.lit (.int .u8 0)), (.lit (.int .u8 0)), (.lit (.int .u8 0)), (.lit (.int .u8 0)), (.lit (.int .u8 0)), (.lit (.int .u8 0)), (.lit (.int .u8 0)), (.lit (.int .u8 0)), (.lit (.int .u8 0)), (.lit (.int .u8 0)), (.lit (.int .u8 0)), (.lit (.int .u8 0)), (.lit (.int .u8 0)), (.lit (.int .u8 0)), (.lit (.int .u8 0)), (.lit (.int .u8 0)), (.lit (.int .u8 0)), (.lit (.int .u8 0)), (.lit (.int .u8 0)), (.lit (.int .u8 0)), (.lit (.int .u8 0)), (.lit (.int .u8 0)), (.lit (.int .u8 0)), (.lit (.int .u8 0)), (.lit (.int .u8 0)), (.lit (.int .u8 0)), (.lit (.int .u8 0)), (.lit (.int .u8 0)), (.lit (.int .u8 0)), (.lit (.int .u8 0)), (.lit (.int .u8 0)), (.lit (.int .u8 0)), (.lit (.int .u8 0)), (.lit (.int .u8 0)), (.lit (.int .u8 0)), (.lit (.int .u8 0)), (.lit (.int .u8 0)), (.lit (.int .u8 0)), (.lit (.int .u8 0)), (.lit (.int .u8 0)), (.lit (.int .u8 0)), (.lit (.int .u8 0)), (.lit (.int .u8 0)), (.lit (.int .u8 0)), (.lit (.int .u8 0)), (.lit (.int .u8 0)), (.lit (.int .u8 0)), (.lit (.int .u8 0)), (.lit (.int .u8 0)), (.lit (.int .u8 0)), (.lit (.int .u8 0)), (.lit (.int .u8 0)), (.lit (.int .u8 0)), (.lit (.int .u8 0)), (.lit (.int .u8 0)), (.lit (.int .u8 0)), (.lit (.int .u8 0)), (.lit (.int .u8 0)), (.lit (.int .u8 0)), (.lit (.int .u8 0)), (.lit (.int .u8 0)), (.lit (.int .u8 0)), (.lit (.int .u8 0)), (.lit (.int .u8 0)), (.lit (.int .u8 0)), (.lit (.int .u8 0)), (.lit (.int .u8 0)), (.lit (.int .u8 0)), (.lit (.int .u8 0)), (.lit (.int .u8 0)), (.lit (.int .u8 0)), (.lit (.int .u8 0)), (.lit (.int .u8 0)), (.lit (.int .u8 0)), (.lit (.int .u8 0)), (.lit (.int .u8 0)), (.lit (.int .u8 0)), (.lit (.int .u8 0)), (.lit (.int .u8 0)), (.lit (.int .u8 0)), (.lit (.int .u8 0)), (.lit (.int .u8 0)), (.lit (.int .u8 0)), (.lit (.int .u8 0)), (.lit (.int .u8 0)), (.lit (.int .u8 0)), (.lit (.int .u8 0)), (.lit (.int .u8 0)), (.lit (.int .u8 0)), (.lit (.int .u8 0)), (.lit (.int .u8 0)), (.lit (.int .u8 0)), (.lit (.int .u8 0)), (.lit (.int .u8 0)), (.lit (.int .u8 0)), (.lit (.int .u8 0)), (.lit (.int .u8 0)), (.lit (.int .u8 0)), (.lit (.int .u8 0)), (.lit (.int .u8 0)), (.lit (.int .u8 0)), (.lit (.int .u8 0)), (.lit (.int .u8 0)), (.lit (.int .u8 0)), (.lit (.int .u8 0)), (.lit (.int .u8 0)), (.lit (.int .u8 0)), (.lit (.int .u8 0)), (.lit (.int .u8 0)), (.lit (.int .u8 0)), (.lit (.int .u8 0)), (.lit (.int .u8 0)), (.lit (.int .u8 0)), (.lit (.int .u8 0)), (.lit (.int .u8 0)), (.lit (.int .u8 0)), (.lit (.int .u8 0)), (.lit (.int .u8 0)), (.lit (.int .u8 0)), (.lit (.int .u8 0)), (.lit (.int .u8 0)), (.lit (.int .u8 0)), (.lit (.int .u8 0)), (.lit (.int .u8 0)), (.lit (.int .u8 0)), (.lit (.int .u8 0)), (.lit (.int .u8 0)), (.lit (.int .u8 0)), (.lit (.int .u8 0)), (.lit (.int .u8 0)), (.lit (.int .u8 0)), (.lit (.int .u8 0)), (.lit (.int .u8 0)), (.lit (.int .u8 0)), (.lit (.int .u8 0)), (.lit (.int .u8 0)), (.lit (.int .u8 0)), (.lit (.int .u8 0)), (.lit (.int .u8 0)), (.lit (.int .u8 0)), (.lit (.int .u8 0)), (.lit (.int .u8 0)), (.lit (.int .u8 0)), (.lit (.int .u8 0)), (.lit (.int .u8 0)), (.lit (.int .u8 0)), (.lit (.int .u8 0)), (.lit (.int .u8 0)), (.lit (.int .u8 0)), (.lit (.int .u8 0)), (.lit (.int .u8 0)), (.lit (.int .u8 0)), (.lit (.int .u8 0)), (.lit (.int .u8 0)), (.lit (.int .u8 0)), (.lit (.int .u8 0)), (.lit (.int .u8 0)), (.lit (.int .u8 0)), (.lit (.int .u8 0)), (.lit (.int .u8 0)), (.lit (.int .u8 0)), (.lit (.int .u8 0)), (.lit (.int .u8 0)), (.lit (.int .u8 0)), (.lit (.int .u8 0)), (.lit (.int .u8 0)), (.lit (.int .u8 0)), (.lit (.int .u8 0)), (.lit (.int .u8 0)), (.lit (.int .u8 0)), (.lit (.int .u8 0)), (.lit (.int .u8 0)), (.lit (.int .u8 0)), (.lit (.int .u8 0)), (.lit (.int .u8 0)), (.lit (.int .u8 0)), (.lit (.int .u8 0)), (.lit (.int .u8 0)), (.lit (.int .u8 0)), (.lit (.int .u8 0)), (.lit (.int .u8 0)), (.lit (.int .u8 0)), (.lit (.int .u8 0)), (.lit (.int .u8 0)), (.lit (.int .u8 0)), (.lit (.int .u8 0)), (.lit (.int .u8 0)), (.lit (.int .u8 0)), (.lit (.int .u8 0)), (.lit (.int .u8 0)), (.lit (.int .u8 0)), (.lit (.int .u8 0)), (.lit (.int .u8 0)), (.lit (.int .u8 0)), (.lit (.int .u8 0)), (.lit (.int .u8 0)), (.lit (.int .u8 0)), (.lit (.int .u8 0)), (.lit (.int .u8 0)), (.lit (.int .u8 0)), (.lit (.int .u8 0)), (.lit (.int .u8 0)), (.lit (.int .u8 0)), (.lit (.int .u8 0)), (.lit (.int .u8 0)), (.lit (.int .u8 0)), (.lit (.int .u8 0)), (.lit (.int .u8 0)), (.lit (.int .u8 0)), (.lit (.int .u8 0)), (.lit (.int .u8 0)), (.lit (.int .u8 0)), (.lit (.int .u8 0)), (.lit (.int .u8 0)), (.lit (.int .u8 0)), (.lit (.int .u8 0)), (.lit (.int .u8 0)), (.lit (.int .u8 0)), (.lit (.int .u8 0)), (.lit (.int .u8 0)), (.lit (.int .u8 0)), (.lit (.int .u8 0)), (.lit (.int .u8 0)), (.lit (.int .u8 0)), (.lit (.int .u8 0)), (.lit (.int .u8 0)), (.lit (.int .u8 0)), (.lit (.int .u8 0)), (.lit (.int .u8 0)), (.lit (.int .u8 0)), (.lit (.int .u8 0)), (.lit (.int .u8 0)), (.lit (.int .u8 0)), (.lit (.int .u8 0)), (.lit (.int .u8 0)), (.lit (.int .u8 0)), (.lit (.int .u8 0)), (.lit (.int .u8 0)), (.lit (.int .u8 0)), (.lit (.int .u8 0)), (.lit (.int .u8 0)), (.lit (.int .u8 0)), (.lit (.int .u8 0)), (.lit (.int .u8 0)), (.lit (.int .u8 0)), (.lit (.int .u8 0)), (.lit (.int .u8 0)), (.lit (.int .u8 0)), (.lit (.int .u8 0)), (.lit (.int .u8 0)), (.lit (.int .u8 0)), (.lit (.int .u8 0)), (.lit (.int .u8 0)), (.lit (.int .u8 0)), (.lit (.int .u8 0)), (.lit (.int .u8 0)), (.lit (.int .u8 0)), (.lit (.int .u8 0)), (.lit (.int .u8 0)), (.lit (.int .u8 0)), (.lit (.int .u8 0)), (.lit (.int .u8 0)), (.lit (.int .u8 0)), (.lit (.int .u8 0)), (.lit (.int .u8 0)), (.lit (.int .u8 0)), (.lit (.int .u8 0)), (.lit (.int .u8 0)), (.lit (.int .u8 0)), (.lit (.int .u8 0)), (.lit (.int .u8 0)), (.lit (.int .u8 0)), (.lit (.int .u8 0)), (.lit (.int .u8 0)), (.lit (.int .u8 0)), (.lit (.int .u8 0)), (.lit (.int .u8 0)), (.lit (.int .u8 0)), (.lit (.int .u8 0)), (.lit (.int .u8 0)), (.lit (.int .u8 0)), (.lit (.int .u8 0)), (.lit (.int .u8 0)), (.lit (.int .u8 0)), (.lit (.int .u8 0)), (.lit (.int .u8 0)), (.lit (.int .u8 0)), (.lit (.int .u8 0)), (.lit (.int .u8 0)), (.lit (.int .u8 0)), (.lit (.int .u8 0)), (.lit (.int .u8 0)), (.lit (.int .u8 0)), (.lit (.int .u8 0)), (.lit (.int .u8 0)), (.lit (.int .u8 0)), (.lit (.int .u8 0)), (.lit (.int .u8 0)), (.lit (.int .u8 0)), (.lit (.int .u8 0)), (.lit (.int .u8 0)), (.lit (.int .u8 0)), (.lit (.int .u8 0)), (.lit (.int .u8 0)), (.lit (.int .u8 0)), (.lit (.int .u8 0)), (.lit (.int .u8 0)), (.lit (.int .u8 0)), (.lit (.int .u8 0)), (.lit (.int .u8 0)), (.lit (.int .u8 0)), (.lit (.int .u8 0)), (.lit (.int .u8 0)), (.lit (.int .u8 0)), (.lit (.int .u8 0)), (.lit (.int .u8 0)), (.lit (.int .u8 0)), (.lit (.int .u8 0)), (.lit (.int .u8 0)), (.lit (.int .u8 0)), (.lit (.int .u8 0)), (.lit (.int .u8 0)), (.lit (.int .u8 0)), (.lit (.int .u8 0)), (.lit (.int .u8 0)), (.lit (.int .u8 0)), (.lit (.int .u8 0)), (.lit (.int .u8 0)), (.lit (.int .u8 0)), (.lit (.int .u8 0)), (.lit (.int .u8 0)), (.lit (.int .u8 0)), (.lit (.int .u8 0)), (.lit (.int .u8 0)), (.lit (.int .u8 0)), (.lit (.int .u8 0)), (.lit (.int .u8 0)), (.lit (.int .u8 0)), (.lit (.int .u8 0)), (.lit (.int .u8 0)), (.lit (.int .u8 0)), (.lit (.int .u8 0)), (.lit (.int .u8 0)), (.lit (.int .u8 0)), (.lit (.int .u8 0)), (.lit (.int .u8 0)), (.lit (.int .u8 0)), (.lit (.int .u8 0)), (.lit (.int .u8 0)), (.lit (.int .u8 0)), (.lit (.int .u8 0)), (.lit (.int .u8 0)), (.lit (.int .u8 0)), (.lit (.int .u8 0)), (.lit (.int .u8 0)), (.lit (.int .u8 0)), (.lit (.int .u8 0)), (.lit (.int .u8 0)), (.lit (.int .u8 0)), (.lit (.int .u8 0)), (.lit (.int .u8 0)), (.lit (.int .u8 0)), (.lit (.int .u8 0)), (.lit (.int .u8 0)), (.lit (.int .u8 0)), (.lit (.int .u8 0)), (.lit (.int .u8 0)), (.lit (.int .u8 0)), (.lit (.int .u8 0)), (.lit (.int .u8 0)), (.lit (.int .u8 0)), (.lit (.int .u8 0)), (.lit (.int .u8 0)), (.lit (.int .u8 0)), (.lit (.int .u8 0)), (.lit (.int .u8 0)), (.lit (.int .u8 0)), (.lit (.int .u8 0)), (.lit (.int .u8 0)), (.lit (.int .u8 0)), (.lit (.int .u8 0)), (.lit (.int .u8 0)), (.lit (.int .u8 0)), (.lit (.int .u8 0)), (.lit (.int .u8 0)), (.lit (.int .u8 0)), (.lit (.int .u8 0)), (.lit (.int .u8 0)), (.lit (.int .u8 0)), (.lit (.int .u8 0)), (.lit (.int .u8 0)), (.lit (.int .u8 0)), (.lit (.int .u8 0)), (.lit (.int .u8 0)), (.lit (.int .u8 0)), (.lit (.int .u8 0)), (.lit (.int .u8 0)), (.lit (.int .u8 0)), (.lit (.int .u8 0)), (.lit (.int .u8 0)), (.lit (.int .u8 0)), (.lit (.int .u8 0)), (.lit (.int .u8 0)), (.lit (.int .u8 0)), (.lit (.int .u8 0)), (.lit (.int .u8 0)), (.lit (.int .u8 0)), (.lit (.int .u8 0)), (.lit (.int .u8 0)), (.lit (.int .u8 0)), (.lit (.int .u8 0)), (.lit (.int .u8 0)), (.lit (.int .u8 0)), (.lit (.int .u8 0)), (.lit (.int .u8 0)), (.lit (.int .u8 0)), (.lit (.int .u8 0)), (.lit (.int .u8 0)), (.lit (.int .u8 0)), (.lit (.int .u8 0)), (.lit (.int .u8 0)), (.lit (.int .u8 0)), (.lit (.int .u8 0)), (.lit (.int .u8 0)), (.lit (.int .u8 0)), (.lit (.int .u8 0)), (.lit (.int .u8 0)), (.lit (.int .u8 0)), (.lit (.int .u8 0)), (.lit (.int .u8 0)), (.lit (.int .u8 0)), (.lit (.int .u8 0)), (.lit (.int .u8 0)), (.lit (.int .u8 0)), (.lit (.int .u8 0)), (.lit (.int .u8 0)), (.lit (.int .u8 0)), (.lit (.int .u8 0)), (.lit (.int .u8 0)), (.lit (.int .u8 0)), (.lit (.int .u8 0)), (.lit (.int .u8 0)), (.lit (.int .u8 0)), (.lit (.int .u8 0)), (.lit (.int .u8 0)), (.lit (.int .u8 0)), (.lit (.int .u8 0)), (.lit (.int .u8 0)), (.lit (.int .u8 0)), (.lit (.int .u8 0)), (.lit (.int .u8 0)), (.lit (.int .u8 0)), (.lit (.int .u8 0)), (.lit (.int .u8 0)), (.lit (.int .u8 0)), (.lit (.int .u8 0)), (.lit (.int .u8 0)), (.lit (.int .u8 0)), (.lit (.int .u8 0)), (.lit (.int .u8 0)), (.lit (.int .u8 0)), (.lit (.int .u8 0)), (.lit (.int .u8 0)), (.lit (.int .u8 0)), (.lit (.int .u8 0)), (.lit (.int .u8 0)), (.lit (.int .u8 0)), (.lit (.int .u8 0)), (.lit (.int .u8 0)), (.lit (.int .u8 0)), (.lit (.int .u8 0)), (.lit (.int .u8 0)), (.lit (.int .u8 0)), (.lit (.int .u8 0)), (.lit (.int .u8 0)), (.lit (.int .u8 0)), (.lit (.int .u8 0)), (.lit (.int .u8 0)), (.lit (.int .u8 0)), (.lit (.int .u8 0)), (.lit (.int .u8 0)), (.lit (.int .u8 0)), (.lit (.int .u8 0)), (.lit (.int .u8 0)), (.lit (.int .u8 0)), (.lit (.int .u8 0)), (.lit (.int .u8 0)), (.lit (.int .u8 0)), (.lit (.int .u8 0)), (.lit (.int .u8 0)), (.lit (.int .u8 0)), (.lit (.int .u8 0)), (.lit (.int .u8 0)), (.lit (.int .u8 0)), (.lit (.int .u8 0)), (.lit (.int .u8 0)), (.lit (.int .u8 0)), (.lit (.int .u8 0)), (.lit (.int .u8 0)), (.lit (.int .u8 0)), (.lit (.int .u8 0)), (.lit (.int .u8 0)), (.lit (.int .u8 0)), (.lit (.int .u8 0)), (.lit (.int .u8 0)), (.lit (.int .u8 0)), (.lit (.int .u8 0)), (.lit (.int .u8 0)), (.lit (.int .u8 0)), (.lit (.int .u8 0)), (.lit (.int .u8 0)), (.lit (.int .u8 0)), (.lit (.int .u8 0)), (.lit (.int .u8 0)), (.lit (.int .u8 0)), (.lit (.int .u8 0)), (.lit (.int .u8 0)), (.lit (.int .u8 0)), (.lit (.int .u8 0)), (.lit (.int .u8 0)), (.lit (.int .u8 0)), (.lit (.int .u8 0)), (.lit (.int .u8 0)), (.lit (.int .u8 0)), (.lit (.int .u8 0)), (.lit (.int .u8 0)), (.lit (.int .u8 0)), (.lit (.int .u8 0)), (.lit (.int .u8 0)), (.lit (.int .u8 0)), (.lit (.int .u8 0)), (.lit (.int .u8 0)), (.lit (.int .u8 0)), (.lit (.int .u8 0)), (.lit (.int .u8 0)), (.lit (.int .u8 0)), (.lit (.int .u8 0)), (.lit (.int .u8 0)), (.lit (.int .u8 0)), (.lit (.int .u8 0)), (.lit (.int .u8 0)), (.lit (.int .u8 0)), (.lit (.int .u8 0)), (.lit (.int .u8 0)), (.lit (.int .u8 0)), (.lit (.int .u8 0)), (.lit (.int .u8 0)), (.lit (.int .u8 0)), (.lit (.int .u8 0)), (.lit (.int .u8 0)), (.lit (.int .u8 0)), (.lit (.int .u8 0)), (.lit (.int .u8 0)), (.lit (.int .u8 0)), (.lit (.int .u8 0)), (.lit (.int .u8 0)), (.lit (.int .u8 0)), (.lit (.int .u8 0)), (.lit (.int .u8 0)), (.lit (.int .u8 0)), (.lit (.int .u8 0)), (.lit (.int .u8 0)), (.lit (.int .u8 0)), (.lit (.int .u8 0)), (.lit (.int .u8 0)), (.lit (.int .u8 0)), (.lit (.int .u8 0)), (.lit (.int .u8 0)), (.lit (.int .u8 0)), (.lit (.int .u8 0)), (.lit (.int .u8 0)), (.lit (.int .u8 0)), (.lit (.int .u8 0)), (.lit (.int .u8 0)), (.lit (.int .u8 0)), (.lit (.int .u8 0)), (.lit (.int .u8 0)), (.lit (.int .u8 0)), (.lit (.int .u8 0)), (.lit (.int .u8 0)), (.lit (.int .u8 0)), (.lit (.int .u8 0)), (.lit (.int .u8 0)), (.lit (.int .u8 0)), (.lit (.int .u8 0)), (.lit (.int .u8 0)), (.lit (.int .u8 0)), (.lit (.int .u8 0)), (.lit (.int .u8 0)), (.lit (.int .u8 0)), (.lit (.int .u8 0)), (.lit (.int .u8 0)), (.lit (.int .u8 0)), (.lit (.int .u8 0)), (.lit (.int .u8 0)), (.lit (.int .u8 0)), (.lit (.int .u8 0)), (.lit (.int .u8 0)), (.lit (.int .u8 0)), (.lit (.int .u8 0)), (.lit (.int .u8 0)), (.lit (.int .u8 0)), (.lit (.int .u8 0)), (.lit (.int .u8 0)), (.lit (.int .u8 0)), (.lit (.int .u8 0)), (.lit (.int .u8 0)), (.lit (.int .u8 0)), (.lit (.int .u8 0)), (.lit (.int .u8 0)), (.lit (.int .u8 0)), (.lit (.int .u8 0)), (.lit (.int .u8 0)), (.lit (.int .u8 0)), (.lit (.int .u8 0)), (.lit (.int .u8 0)), (.lit (.int .u8 0)), (.lit (.int .u8 0)), (.lit (.int .u8 0)), (.lit (.int .u8 0)), (.lit (.int .u8 0)), (.lit (.int .u8 0)), (.lit (.int .u8 0)), (.lit (.int .u8 0)), (.lit (.int .u8 0)), (.lit (.int .u8 0)), (.lit (.int .u8 0)), (.lit (.int .u8 0)), (.lit (.int .u8 0)), (.lit (.int .u8 0)), (.lit (.int .u8 0)), (.lit (.int .u8 0)), (.lit (.int .u8 0)), (.lit (.int .u8 0)), (.lit (.int .u8 0)), (.lit (.int .u8 0)), (.lit (.int .u8 0)), (.lit (.int .u8 0)), (.lit (.int .u8 0)), (.lit (.int .u8 0)), (.lit (.int .u8 0)), (.lit (.int .u8 0)), (.lit (.int .u8 0)), (.lit (.int .u8 0)), (.lit (.int .u8 0)), (.lit (.int .u8 0)), (.lit (.int .u8 0)), (.lit (.int .u8 0)), (.lit (.int .u8 0)), (.lit (.int .u8 0)), (.lit (.int .u8 0)), (.lit (.int .u8 0)), (.lit (.int .u8 0)), (.lit (.int .u8 0)), (.lit (.int .u8 0)), (.lit (.int .u8 0)), (.lit (.int .u8 0)), (.lit (.int .u8 0)), (.lit (.int .u8 0)), (.lit (.int .u8 0)), (.lit (.int .u8 0)), (.lit (.int .u8 0)), (.lit (.int .u8 0)), (.lit (.int .u8 0)), (.lit (.int .u8 0)), (.lit (.int .u8 0)), (.lit (.int .u8 0)), (.lit (.int .u8 0)), (.lit (.int .u8 0)), (.lit (.int .u8 0)), (.lit (.int .u8 0)), (.lit (.int .u8 0)), (.lit (.int .u8 0)), (.lit (.int .u8 0)), (.lit (.int .u8 0)), (.lit (.int .u8 0)), (.lit (.int .u8 0)), (.lit (.int .u8 0)), (.lit (.int .u8 0)), (.lit (.int .u8 0)), (.lit (.int .u8 0)), (.lit (.int .u8 0)), (.lit (.int .u8 0)), (.lit (.int .u8 0)), (.lit (.int .u8 0)), (.lit (.int .u8 0)), (.lit (.int .u8 0)), (.lit (.int .u8 0)), (.lit (.int .u8 0)), (.lit (.int .u8 0)), (.lit (.int .u8 0)), (.lit (.int .u8 0)), (.lit (.int .u8 0)), (.lit (.int .u8 0)), (.lit (.int .u8 0)), (.lit (.int .u8 0)), (.lit (.int .u8 0)), (.lit (.int .u8 0)), (.lit (.int .u8 0)), (.lit (.int .u8 0)), (.lit (.int .u8 0)), (.lit (.int .u8 0)), (.lit (.int .u8 0)), (.lit (.int .u8 0)), (.lit (.int .u8 0)), (.lit (.int .u8 0)), (.lit (.int .u8 0)), (.lit (.int .u8 0)), (.lit (.int .u8 0)), (.lit (.int .u8 0)), (.lit (.int .u8 0)), (.lit (.int .u8 0)), (.lit (.int .u8 0)), (.lit (.int .u8 0)), (.lit (.int .u8 0)), (.lit (.int .u8 0)), (.lit (.int .u8 0)), (.lit (.int .u8 0)), (.lit (.int .u8 0)), (.lit (.int .u8 0)), (.lit (.int .u8 0)), (.lit (.int .u8 0)), (.lit (.int .u8 0)), (.lit (.int .u8 0)), (.lit (.int .u8 0)), (.lit (.int .u8 0)), (.lit (.int .u8 0)), (.lit (.int .u8 0)), (.lit (.int .u8 0)), (.lit (.int .u8 0)), (.lit (.int .u8 0)), (.lit (.int .u8 0)), (.lit (.int .u8 0)), (.lit (.int .u8 0)), (.lit (.int .u8 0)), (.lit (.int .u8 0)), (.lit (.int .u8 0)), (.lit (.int .u8 0)), (.lit (.int .u8 0)), (.lit (.int .u8 0)), (.lit (.int .u8 0)), (.lit (.int .u8 0)), (.lit (.int .u8 0)), (.lit (.int .u8 0)), (.lit (.int .u8 0)), (.lit (.int .u8 0)), (.lit (.int .u8 0)), (.lit (.int .u8 0)), (.lit (.int .u8 0)), (.lit (.int .u8 0)), (.lit (.int .u8 0)), (.lit (.int .u8 0)), (.lit (.int .u8 0)), (.lit (.int .u8 0)), (.lit (.int .u8 0)), (.lit (.int .u8 0)), (.lit (.int .u8 0)), (.lit (.int .u8 0)), (.lit (.int .u8 0)), (.lit (.int .u8 0)), (.lit (.int .u8 0)), (.lit (.int .u8 0)), (.lit (.int .u8 0)), (.lit (.int .u8 0)), (.lit (.int .u8 0)), (.lit (.int .u8 0)), (.lit (.int .u8 0)), (.lit (.int .u8 0)), (.lit (.int .u8 0)), (.lit (.int .u8 0)), (.lit (.int .u8 0)), (.lit (.int .u8 0)), (.lit (.int .u8 0)), (.lit (.int .u8 0)), (.lit (.int .u8 0)), (.lit (.int .u8 0)), (.lit (.int .u8 0)), (.lit (.int .u8 0)), (.lit (.int .u8 0)), (.lit (.int .u8 0)), (.lit (.int .u8 0)), (.lit (.int .u8 0)), (.lit (.int .u8 0)), (.lit (.int .u8 0)), (.lit (.int .u8 0)), (.lit (.int .u8 0)), (.lit (.int .u8 0)), (.lit (.int .u8 0)), (.lit (.int .u8 0)), (.lit (.int .u8 0)), (.lit (.int .u8 0)), (.lit (.int .u8 0)), (.lit (.int .u8 0)), (.lit (.int .u8 0)), (.lit (.int .u8 0)), (.lit (.int .u8 0)), (.lit (.int .u8 0)), (.lit (.int .u8 0)), (.lit (.int .u8 0)), (.lit (.int .u8 0)), (.lit (.int .u8 0)), (.lit (.int .u8 0)), (.lit (.int .u8 0)), (.lit (.int .u8 0)), (.lit (.int .u8 0)), (.lit (.int .u8 0)), (.lit (.int .u8 0)), (.lit (.int .u8 0)), (.lit (.int .u8 0)), (.lit (.int .u8 0)), (.lit (.int .u8 0)), (.lit (.int .u8 0)), (.lit (.int .u8 0)), (.lit (.int .u8 0)), (.lit (.int .u8 0)), (.lit (.int .u8 0)), (.lit (.int .u8 0)), (.lit (.int .u8 0)), (.lit (.int .u8 0)), (.lit (.int .u8 0)), (.lit (.int .u8 0)), (.lit (.int .u8 0)), (.lit (.int .u8 0)), (.lit (.int .u8 0)), (.lit (.int .u8 0)), (.lit (.int .u8 0)), (.lit (.int .u8 0)), (.lit (.int .u8 0)), (.lit (.int .u8 0)), (.lit (.int .u8 0)), (.lit (.int .u8 0)), (.lit (.int .u8 0)), (.lit (.int .u8 0)), (.lit (.int .u8 0)), (.lit (.int .u8 0)), (.lit (.int .u8 0)), (.lit (.int .u8 0)), (.lit (.int .u8 0)), (.lit (.int .u8 0)), (.lit (.int .u8 0)), (.lit (.int .u8 0)), (.lit (.int .u8 0)), (.lit (.int .u8 0)), (.lit (.int .u8 0)), (.lit (.int .u8 0)), (.lit (.int .u8 0)), (.lit (.int .u8 0)), (.lit (.int .u8 0)), (.lit (.int .u8 0)), (.lit (.int .u8 0)), (.lit (.int .u8 0)), (.lit (.int .u8 0)), (.lit (.int .u8 0)), (.lit (.int .u8 0)), (.lit (.int .u8 0)), (.lit (.int .u8 0)), (.lit (.int .u8 0)), (.lit (.int .u8 0)), (.lit (.int .u8 0)), (.lit (.int .u8 0)), (.lit (.int .u8 0)), (.lit (.int .u8 0)), (.lit (.int .u8 0)), (.lit (.int .u8 0)), (.lit (.int .u8 0)), (.lit (.int .u8 0)), (.lit (.int .u8 0)), (.lit (.int .u8 0)), (.lit (.int .u8 0)), (.lit (.int .u8 0)), (.lit (.int .u8 0)), (.lit (.int .u8 0)), (.lit (.int .u8 0)), (.lit (.int .u8 0)), (.lit (.int .u8 0)), (.lit (.int .u8 0)), (.lit (.int .u8 0)), (.lit (.int .u8 0)), (.lit (.int .u8 0)), (.lit (.int .u8 0)), (.lit (.int .u8 0)), (.lit (.int .u8 0)), (.lit (.int .u8 0)), (.lit (.int .u8 0)), (.lit (.int .u8 0)), (.lit (.int .u8 0)), (.lit (.int .u8 0)), (.lit (.int .u8 0)), (.lit (.int .u8 0)), (.lit (.int .u8 0)), (.lit (.int .u8 0)), (.lit (.int .u8 0)), (.lit (.int .u8 0)), (.lit (.int .u8 0)), (.lit (.int .u8 0)), (.lit (.int .u8 0)), (.lit (.int .u8 0)), (.lit (.int .u8 0)), (.lit (.int .u8 0)), (.lit (.int .u8 0)), (.lit (.int .u8 0)), (.lit (.int .u8 0)), (.lit (.int .u8 0)), (.lit (.int .u8 0)), (.lit (.int .u8 0)), (.lit (.int .u8 0)), (.lit (.int .u8 0)), (.lit (.int .u8 0)), (.lit (.int .u8 0)), (.lit (.int .u8 0)), (.lit (.int .u8 0)), (.lit (.int .u8 0)), (.lit (.int .u8 0)), (.lit (.int .u8 0)), (.lit (.int .u8 0)), (.lit (.int .u8 0)), (.lit (.int .u8 0)), (.lit (.int .u8 0)), (.lit (.int .u8 0)), (.lit (.int .u8 0)), (.lit (.int .u8 0)), (.lit (.int .u8 0)), (.lit (.int .u8 0)), (.lit (.int .u8 0)), (.lit (.int .u8 0)), (.lit (.int .u8 0)), (.lit (.int .u8 0)), (.lit (.int .u8 0)), (.lit (.int .u8 0)), (.lit (.int .u8 0)), (.lit (.int .u8 0)), (.lit (.int .u8 0)), (.lit (.int .u8 0)), (.lit (.int .u8 0)), (.lit (.int .u8 0)), (.lit (.int .u8 0)), (.lit (.int .u8 0)), (.lit (.int .u8 0)), (.lit (.int .u8 0)), (.lit (.int .u8 0)), (.lit (.int .u8 0)), (.lit (.int .u8 0)), (.lit (.int .u8 0)), (.lit (.int .u8 0)), (.lit (.int .u8 0)), (.lit (.int .u8 0)), (.lit (.int .u8 0)), (.lit (.int .u8 0)), (.lit (.int .u8 0)), (.lit (.int .u8 0)), (.lit (.int .u8 0)), (.lit (.int .u8 0)), (.lit (.int .u8 0)), (.lit (.int .u8 0)), (.lit (.int .u8 0)), (.lit (.int .u8 0)), (.lit (.int .u8 0)), (.lit (.int .u8 0)), (.lit (.int .u8 0)), (.lit (.int .u8 0)), (.lit (.int .u8 0)), (.lit (.int .u8 0)), (.lit (.int .u8 0)), (.lit (.int .u8 0)), (.lit (.int .u8 0)), (.lit (.int .u8 0)), (.lit (.int .u8 0)), (.lit (.int .u8 0)), (.lit (.int .u8 0)), (.lit (.int .u8 0)), (.lit (.int .u8 0)), (.lit (.int .u8 0)), (.lit (.int .u8 0)), (.lit (.int .u8 0)), (.lit (.int .u8 0)), (.lit (.int .u8 0)), (.lit (.int .u8 0)), (.lit (.int .u8 0)), (.lit (.int .u8 0)), (.lit (.int .u8 0)), (.lit (.int .u8 0)), (.lit (.int .u8 0)), (.lit (.int .u8 0)), (.lit (.int .u8 0)), (.lit (.int .u8 0)), (.lit (.int .u8 0)), (.lit (.int .u8 0)), (.lit (.int .u8 0)), (.lit (.int .u8 0)), (.lit (.int .u8 0)), (.lit (.int .u8 0)), (.lit (.int .u8 0)), (.lit (.int .u8 0)), (.lit (.int .u8 0)), (.lit (.int .u8 0)), (.lit (.int .u8 0)), (.lit (.int .u8 0)), (.lit (.int .u8 0)), (.lit (.int .u8 0)), (.lit (.int .u8 0)), (.lit (.int .u8 0)), (.lit (.int .u8 0)), (.lit (.int .u8 0)), (.lit (.int .u8 0)), (.lit (.int .u8 0)), (.lit (.int .u8 0)), (.lit (.int .u8 0)), (.lit (.int .u8 0)), (.lit (.int .u8 0)), (.lit (.int .u8 0)), (.lit (.int .u8 0)), (.lit (.int .u8 0)), (.lit (.int .u8 0)), (.lit (.int .u8 0)), (.lit (.int .u8 0)), (.lit (.int .u8 0)), (.lit (.int .u8 0)), (.lit (.int .u8 0)), (.lit (.int .u8 0)), (.lit (.int .u8 0)), (.lit (.int .u8 0)), (.lit (.int .u8 0)), (.lit (.int .u8 0)), (.lit (.int .u8 0)), (.lit (.int .u8 0)), (.lit (.int .u8 0)), (.lit (.int .u8 0)), (.lit (.int .u8 0)), (.lit (.int .u8 0)), (.lit (.int .u8 0)), (.lit (.int .u8 0)), (.lit (.int .u8 0)), (.lit (.int .u8 0)), (.lit (.int .u8 0)), (.lit (.int .u8 0)), (.lit (.int .u8 0)), (.lit (.int .u8 0)), (.lit (.int .u8 0)), (.lit (.int .u8 0)), (.lit (.int .u8 0)), (.lit (.int .u8 0)), (.lit (.int .u8 0)), (.lit (.int .u8 0)), (.lit (.int .u8 0)), (.lit (.int .u8 0)), (.lit (.int .u8 0)), (.lit (.int .u8 0)), (.lit (.int .u8 0)), (.lit (.int .u8 0)), (.lit (.int .u8 0)), (.lit (.int .u8 0)), (.lit (.int .u8 0)), (.lit (.int .u8 0)), (.lit (.int .u8 0)), (.lit (.int .u8 0)), (.lit (.int .u8 0)), (.lit (.int .u8 0)), (.lit (.int .u8 0)), (.lit (.int .u8 0)), (.lit (.int .u8 0)), (.lit (.int .u8 0)), (.lit (.int .u8 0)), (.lit (.int .u8 0)), (.lit (.int .u8 0)), (.lit (.int .u8 0)), (.lit (.int .u8 0)), (.lit (.int .u8 0)), (.lit (.int .u8 0)), (.lit (.int .u8 0)), (.lit (.int .u8 0)), (.lit (.int .u8 0)), (.lit (.int .u8 0)), (.lit (.int .u8 0)), (.lit (.int .u8 0)), (.lit (.int .u8 0)), (.lit (.int .u8 0)), (.lit (.int .u8 0)), (.lit (.int .u8 0)), (.lit (.int .u8 0)), (.lit (.int .u8 0)), (.lit (.int .u8 0)), (.lit (.int .u8 0)), (.lit (.int .u8 0)), (.lit (.int .u8 0)), (.lit (.int .u8 0)), (.lit (.int .u8 0)), (.lit (.int .u8 0)), (.lit (.int .u8 0)), (.lit (.int .u8 0)), (.lit (.int .u8 0)), (.lit (.int .u8 0)), (.lit (.int .u8 0)), (.lit (.int .u8 0)), (.lit (.int .u8 0)), (.lit (.int .u8 0)), (.lit (.int .u8 0)), (.lit (.int .u8 0)), (.lit (.int .u8 0)), (.lit (.int .u8 0)), (.lit (.int .u8 0)), (.lit (.int .u8 0)), (.lit (.int .u8 0)), (.lit (.int .u8 0)), (.lit (.int .u8 0)), (.lit (.int .u8 0)), (.lit (.int .u8 0)), (.lit (.int .u8 0)), (.lit (.int .u8 0)), (.lit (.int .u8 0)), (.lit (.int .u8 0)), (.lit (.int .u8 0)), (.lit (.int .u8 0)), (.lit (.int .u8 0)), (.lit (.int .u8 0)), (.lit (.int .u8 0)), (.lit (.int .u8 0)), (.lit (.int .u8 0)), (.lit (.int .u8 0)), (.lit (.int .u8 0)), (.lit (.int .u8 0)), (.lit (.int .u8 0)), (.lit (.int .u8 0)), (.lit (.int .u8 0)), (.lit (.int .u8 0)), (.lit (.int .u8 0)), (.lit (.int .u8 0)), (.lit (.int .u8 0)), (.lit (.int .u8 0)), (.lit (.int .u8 0)), (.lit (.int .u8 0)), (.lit (.int .u8 0)), (.lit (.int .u8 0)), (.lit (.int .u8 0)), (.lit (.int .u8 0)), (.lit (.int .u8 0)), (.lit (.int .u8 0)), (.lit (.int .u8 0)), (.lit (.int .u8 0)), (.lit (.int .u8 0)), (.lit (.int .u8 0)), (.lit (.int .u8 0)), (.lit (.int .u8 0)), (.lit (.int .u8 0)), (.lit (.int .u8 0)), (.lit (.int .u8 0)), (.lit (.int .u8 0)), (.lit (.int .u8 0)), (.lit (.int .u8 0)), (.lit (.int .u8 0)), (.lit (.int .u8 0)), (.lit (.int .u8 0)), (.lit (.int .u8 0)), (.lit (.int .u8 0)), (.lit (.int .u8 0)), (.lit (.int .u8 0)), (.lit (.int .u8 0)), (.lit (.int .u8 0)), (.lit (.int .u8 0)), (.lit (.int .u8 0)), (.lit (.int .u8 0)), (.lit (.int .u8 0)), (.lit (.int .u8 0)), (.lit (.int .u8 0)), (.lit (.int .u8 0)), (.lit (.int .u8 0)), (.lit (.int .u8 0)), (.lit (.int .u8 0)), (.lit (.int .u8 0)), (.lit (.int .u8 0)), (.lit (.int .u8 0)), (.lit (.int .u8 0)), (.lit (.int .u8 0)), (.lit (.int .u8 0)), (.lit (.int .u8 0)), (.lit (.int .u8 0)), (.lit (.int .u8 0)), (.lit (.int .u8 0)), (.lit (.int .u8 0)), (.lit (.int .u8 0)), (.lit (.int .u8 0)), (.lit (.int .u8 0)), (.lit (.int .u8 0)), (.lit (.int .u8 0)), (.lit (.int .u8 0)), (.lit (.int .u8 0)), (.lit (.int .u8 0)), (.lit (.int .u8 0)), (.lit (.int .u8 0)), (.lit (.int .u8 0)), (.lit (.int .u8 0)), (.lit (.int .u8 0)), (.lit (.int .u8 0)), (.lit (.int .u8 0)), (.lit (.int .u8 0)), (.lit (.int .u8 0)), (.lit (.int .u8 0)), (.lit (.int .u8 0)), (.lit (.int .u8 0)), (.lit (.int .u8 0)), (.lit (.int .u8 0)), (.lit (.int .u8 0)), (.lit (.int .u8 0)), (.lit (.int .u8 0)), (.lit (.int .u8 0)), (.lit (.int .u8 0)), (.lit (.int .u8 0)), (.lit (.int .u8 0)), (.lit (.int .u8 0)), (.lit (.int .u8 0)), (.lit (.int .u8 0)), (.lit (.int .u8 0)), (.lit (.int .u8 0)), (.lit (.int .u8 0)), (.lit (.int .u8 0)), (.lit (.int .u8 0)), (.lit (.int .u8 0)), (.lit (.int .u8 0)), (.lit (.int .u8 0)), (.lit (.int .u8 0)), (.lit (.int .u8 0)), (.lit (.int .u8 0)), (.lit (.int .u8 0)), (.lit (.int .u8 0)), (.lit (.int .u8 0)), (.lit (.int .u8 0)), (.lit (.int .u8 0)), (.lit (.int .u8 0)), (.lit (.int .u8 0)), (.lit (.int .u8 0)), (.lit (.int .u8 0)), (.lit (.int .u8 0)), (.lit (.int .u8 0)), (.lit (.int .u8 0)), (.lit (.int .u8 0)), (.lit (.int .u8 0)), (.lit (.int .u8 0)), (.lit (.int .u8 0)), (.lit (.int .u8 0)), (.lit (.int .u8 0)), (.lit (.int .u8 0)), (.lit (.int .u8 0)), (.lit (.int .u8 0)), (.lit (.int .u8 0)), (.lit (.int .u8 0)), (.lit (.int .u8 0)), (.lit (.int .u8 0)), (.lit (.int .u8 0)), (.lit (.int .u8 0)), (.lit (.int .u8 0)), (.lit (.int .u8 0)), (.lit (.int .u8 0)), (.lit (.int .u8 0)), (.lit (.int .u8 0)), (.lit (.int .u8 0)), (.lit (.int .u8 0)), (.lit (.int .u8 0)), (.lit (.int .u8 0)), (.lit (.int .u8 0)), (.lit (.int .u8 0)), (.lit (.int .u8 0)), (.lit (.int .u8 0)), (.lit (.int .u8 0)), (.lit (.int .u8 0)), (.lit (.int .u8 0)), (.lit (.int .u8 0)), (.lit (.int .u8 0)), (.lit (.int .u8 0)), (.lit (.int .u8 0)), (.lit (.int .u8 0)), (.lit (.int .u8 0)), (.lit (.int .u8 0)), (.lit (.int .u8 0)), (.lit (.int .u8 0)), (.lit (.int .u8 0)), (.lit (.int .u8 0)), (.lit (.int .u8 0)), (.lit (.int .u8 0)), (.lit (.int .u8 0)), (.lit (.int .u8 0)), (.lit (.int .u8 0)), (.lit (.int .u8 0)), (.lit (.int .u8 0)), (.lit (.int .u8 0)), (.lit (.int .u8 0)), (.lit (.int .u8 0)), (.lit (.int .u8 0)), (.lit (.int .u8 0)), (.lit (.int .u8 0)), (.lit (.int .u8 0)), (.lit (.int .u8 0)), (.lit (.int .u8 0)), (.lit (.int .u8 0)), (.lit (.int .u8 0)), (.lit (.int .u8 0)), (.lit (.int .u8 0)), (.lit (.int .u8 0)), (.lit (.int .u8 0)), (.lit (.int .u8 0)), (.lit (.int .u8 0)), (.lit (.int .u8 0)), (.lit (.int .u8 0)), (.lit (.int .u8 0)), (.lit (.int .u8 0)), (.lit (.int .u8 0)), (.lit (.int .u8 0)), (.lit (.int .u8 0)), (.lit (.int .u8 0)), (.lit (.int .u8 0)), (.lit (.int .u8 0)), (.lit (.int .u8 0)), (.lit (.int .u8 0)), (.lit (.int .u8 0)), (.lit (.int .u8 0)), (.lit (.int .u8 0)), (.lit (.int .u8 0)), (.lit (.int .u8 0)), (.lit (.int .u8 0)), (.lit (.int .u8 0)), (.lit (.int .u8 0)), (.lit (.int .u8 0)), (.lit (.int .u8 0)), (.lit (.int .u8 0)), (.lit (.int .u8 0)), (.lit (.int .u8 0)), (.lit (.int .u8 0)), (.lit (.int .u8 0)), (.lit (.int .u8 0)), (.lit (.int .u8 0)), (.lit (.int .u8 0)), (.lit (.int .u8 0)), (.lit (.int .u8 0)), (.lit (.int .u8 0)), (.lit (.int .u8 0)), (.lit (.int .u8 0)), (.lit (.int .u8 0)), (.lit (.int .u8 0)), (.lit (.int .u8 0)), (.lit (.int .u8 0)), (.lit (.int .u8 0)), (.lit (.int .u8 0)), (.lit (.int .u8 0)), (.lit (.int .u8 0)), (.lit (.int .u8 0)), (.lit (.int .u8 0)), (.lit (.int .u8 0)), (.lit (.int .u8 0)), (.lit (.int .u8 0)), (.lit (.int .u8 0)), (.lit (.int .u8 0)), (.lit (.int .u8 0)), (.lit (.int .u8 0)), (.lit (.int .u8 0)), (.lit (.int .u8 0)), (.lit (.int .u8 0)), (.lit (.int .u8 0)), (.lit (.int .u8 0)), (.lit (.int .u8 0)), (.lit (.int .u8 0)), (.lit (.int .u8 0)), (.lit (.int .u8 0)), (.lit (.int .u8 0)), (.lit (.int .u8 0)), (.lit (.int .u8 0)), (.lit (.int .u8 0)), (.lit (.int .u8 0)), (.lit (.int .u8 0)), (.lit (.int .u8 0)), (.lit (.int .u8 0)), (.lit (.int .u8 0)), (.lit (.int .u8 0)), (.lit (.int .u8 0)), (.lit (.int .u8 0)), (.lit (.int .u8 0)), (.lit (.int .u8 0)), (.lit (.int .u8 0)), (.lit (.int .u8 0)), (.lit (.int .u8 0)), (.lit (.int .u8 0)), (.lit (.int .u8 0)), (.lit (.int .u8 0)), (.lit (.int .u8 0)), (.lit (.int .u8 0)), (.lit (.int .u8 0)), (.lit (.int .u8 0)), (.lit (.int .u8 0)), (.lit (.int .u8 0)), (.lit (.int .u8 0)), (.lit (.int .u8 0)), (.lit (.int .u8 0)), (.lit (.int .u8 0)), (.lit (.int .u8 0)), (.lit (.int .u8 0)), (.lit (.int .u8 0)), (.lit (.int .u8 0)), (.lit (.int .u8 0)), (.lit (.int .u8 0)), (.lit (.int .u8 0)), (.lit (.int .u8 0)), (.lit (.int .u8 0)), (.lit (.int .u8 0)), (.lit (.int .u8 0)), (.lit (.int .u8 0)), (.lit (.int .u8 0)), (.lit (.int .u8 0)), (.lit (.int .u8 0)), (.lit (.int .u8 0)), (.lit (.int .u8 0)), (.lit (.int .u8 0)), (.lit (.int .u8 0)), (.lit (.int .u8 0)), (.lit (.int .u8 0)), (.lit (.int .u8 0)), (.lit (.int .u8 0)), (.lit (.int .u8 0)), (.lit (.int .u8 0)), (.lit (.int .u8 0)), (.lit (.int .u8 0)), (.lit (.int .u8 0)), (.lit (.int .u8 0)), (.lit (.int .u8 0)), (.lit (.int .u8 0)), (.lit (.int .u8 0)), (.lit (.int .u8 0)), (.lit (.int .u8 0)), (.lit (.int .u8 0)), (.lit (.int .u8 0)), (.lit (.int .u8 0)), (.lit (.int .u8 0)), (.lit (.int .u8 0)), (.lit (.int .u8 0)), (.lit (.int .u8 0)), (.lit (.int .u8 0)), (.lit (.int .u8 0)), (.lit (.int .u8 0)), (.lit (.int .u8 0)), (.lit (.int .u8 0)), (.lit (.int .u8 0)), (.lit (.int .u8 0)), (.lit (.int .u8 0)), (.lit (.int .u8 0)), (.lit (.int .u8 0)), (.lit (.int .u8 0)), (.lit (.int .u8 0)), (.lit (.int .u8 0)), (.lit (.int .u8 0)), (.lit (.int .u8 0)), (.lit (.int .u8 0)), (.lit (.int .u8 0)), (.lit (.int .u8 0)), (.lit (.int .u8 0)), (.lit (.int .u8 0)), (.lit (.int .u8 0)), (.lit (.int .u8 0)), (.lit (.int .u8 0)), (.lit (.int .u8 0)), (.lit (.int .u8 0)), (.lit (.int .u8 0)), (.lit (.int .u8 0)), (.lit (.int .u8 0)), (.lit (.int .u8 0)), (.lit (.int .u8 0)), (.lit (.int .u8 0)), (.lit (.int .u8 0)), (.lit (.int .u8 0)), (.lit (.int .u8 0)), (.lit (.int .u8 0)), (.lit (.int .u8 0)), (.lit (.int .u8 0)), (.lit (.int .u8 0)), (.lit (.int .u8 0)), (.lit (.int .u8 0)), (.lit (.int .u8 0)), (.lit (.int .u8 0)), (.lit (.int .u8 0)), (.lit (.int .u8 0)), (.lit (.int .u8 0)), (.lit (.int .u8 0)), (.lit (.int .u8 0)), (.lit (.int .u8 0)), (.lit (.int .u8 0)), (.lit (.int .u8 0)), (.lit (.int .u8 0)), (.lit (.int .u8 0)), (.lit (.int .u8 0)), (.lit (.int .u8 0)), (.lit (.int .u8 0)), (.lit (.int .u8 0)), (.lit (.int .u8 0)), (.lit (.int .u8 0)), (.lit (.int .u8 0)), (.lit (.int .u8 0)), (.lit (.int .u8 0)), (.lit (.int .u8 0)), (.lit (.int .u8 0)), (.lit (.int .u8 0)), (.lit (.int .u8 0)), (.lit (.int .u8 0)), (.lit (.int .u8 0)), (.lit (.int .u8 0)), (.lit (.int .u8 0)), (.lit (.int .u8 0)), (.lit (.int .u8 0)), (.lit (.int .u8 0)), (.lit (.int .u8 0)), (.lit (.int .u8 0)), (.lit (.int .u8 0)), (.lit (.int .u8 0)), (.lit (.int .u8 0)), (.lit (.int .u8 0)), (.lit (.int .u8 0)), (.lit (.int .u8 0)), (.lit (.int .u8 0)), (.lit (.int .u8 0)), (.lit (.int .u8 0)), (.lit (.int .u8 0)), (.lit (.int .u8 0)), (.lit (.int .u8 0)), (.lit (.int .u8 0)), (.lit (.int .u8 0)), (.lit (.int .u8 0)), (.lit (.int .u8 0)), (.lit (.int .u8 0)), (.lit (.int .u8 0)), (.lit (.int .u8 0)), (.lit (.int .u8 0)), (.lit (.int .u8 0)), (.lit (.int .u8 0)), (.lit (.int .u8 0)), (.lit (.int .u8 0)), (.lit (.int .u8 0)), (.lit (.int .u8 0)), (.lit (.int .u8 0)), (.lit (.int .u8 0)), (.lit (.int .u8 0)), (.lit (.int .u8 0)), (.lit (.int .u8 0)), (.lit (.int .u8 0)), (.lit (.int .u8 0)), (.lit (.int .u8 0)), (.lit (.int .u8 0)), (.lit (.int .u8 0)), (.lit (.int .u8 0)), (.lit (.int .u8 0)), (.lit (.int .u8 0)), (.lit (.int .u8 0)), (.lit (.int .u8 0)), (.lit (.int .u8 0)), (.lit (.int .u8 0)), (.lit (.int .u8 0)), (.lit (.int .u8 0)), (.lit (.int .u8 0)), (.lit (.int .u8 0)), (.lit (.int .u8 0)), (.lit (.int .u8 0)), (.lit (.int .u8 0)), (.lit (.int .u8 0)), (.lit (.int .u8 0)), (.lit (.int .u8 0)), (.lit (.int .u8 0)), (.lit (.int .u8 0)), (.lit (.int .u8 0)), (.lit (.int .u8 0)), (.lit (.int .u8 0)), (.lit (.int .u8 0)), (.lit (.int .u8 0)), (.lit (.int .u8 0)), (.lit (.int .u8 0)), (.lit (.int .u8 0)), (.lit (.int .u8 0)), (.lit (.int .u8 0)), (.lit (.int .u8 0)), (.lit (.int .u8 0)), (.lit (.int .u8 0)), (.lit (.int .u8 0)), (.lit (.int .u8 0)), (.lit (.int .u8 0)), (.lit (.int .u8 0)), (.lit (.int .u8 0)), (.lit (.int .u8 0)), (.lit (.int .u8 0)), (.lit (.int .u8 0)), (.lit (.int .u8 0)), (.lit (.int .u8 0)), (.lit (.int .u8 0)), (.lit (.int .u8 0)), (.lit (.int .u8 0)), (.lit (.int .u8 0)), (.lit (.int .u8 0)), (.lit (.int .u8 0)), (.lit (.int .u8 0)), (.lit (.int .u8 0)), (.lit (.int .u8 0)), (.lit (.int .u8 0)), (.lit (.int .u8 0)), (.lit (.int .u8 0)), (.lit (.int .u8 0)), (.lit (.int .u8 0)), (.lit (.int .u8 0)), (.lit (.int .u8 0)), (.lit (.int .u8 0)), (.lit (.int .u8 0)), (.lit (.int .u8 0)), (.lit (.int .u8 0)), (.lit (.int .u8 0)), (.lit (.int .u8 0)), (.lit (.int .u8 0)), (.lit (.int .u8 0)), (.lit (.int .u8 0)), (.lit (.int .u8 0)), (.lit (.int .u8 0)), (.lit (.int .u8 0)), (.lit (.int .u8 0)), (.lit (.int .u8 0)), (.lit (.int .u8 0)), (.lit (.int .u8 0)), (.lit (.int .u8 0)), (.lit (.int .u8 0)), (.lit (.int .u8 0)), (.lit (.int .u8 0)), (.lit (.int .u8 0)), (.lit (.int .u8 0)), (.lit (.int .u8 0)), (.lit (.int .u8 0)), (.lit (.int .u8 0)), (.lit (.int .u8 0)), (.lit (.int .u8 0)), (.lit (.int .u8 0)), (.lit (.int .u8 0)), (.lit (.int .u8 0)), (.lit (.int .u8 0)), (.lit (.int .u8 0)), (.lit (.int .u8 0)), (.lit (.int .u8 0)), (.lit (.int .u8 0)), (.lit (.int .u8 0)), (.lit (.int .u8 0)), (.lit (.int .u8 0)), (.lit (.int .u8 0)), (.lit (.int .u8 0)), (.lit (.int .u8 0)), (.lit (.int .u8 0)), (.lit (.int .u8 0)), (.lit (.int .u8 0)), (.lit (.int .u8 0)), (.lit (.int .u8 0)), (.lit (.int .u8 0)), (.lit (.int .u8 0)), (.lit (.int .u8 0)), (.lit (.int .u8 0)), (.lit (.int .u8 0)), (.lit (.int .u8 0)), (.lit (.int .u8 0)), (.lit (.int .u8 0)), (.lit (.int .u8 0)), (.lit (.int .u8 0)), (.lit (.int .u8 0)), (.lit (.int .u8 0)), (.lit (.int .u8 0)), (.lit (.int .u8 0)), (.lit (.int .u8 0)), (.lit (.int .u8 0)), (.lit (.int .u8 0)), (.lit (.int .u8 0)), (.lit (.int .u8 0)), (.lit (.int .u8 0)), (.lit (.int .u8 0)), (.lit (.int .u8 0)), (.lit (.int .u8 0)), (.lit (.int .u8 0)), (.lit (.int .u8 0)), (.lit (.int .u8 0)), (.lit (.int .u8 0)), (.lit (.int .u8 0)), (.lit (.int .u8 0)), (.lit (.int .u8 0)), (.lit (.int .u8 0)), (.lit (.int .u8 0)), (.lit (.int .u8 0)), (.lit (.int .u8 0)), (.lit (.int .u8 0)), (.lit (.int .u8 0)), (.lit (.int .u8 0)), (.lit (.int .u8 0)), (.lit (.int .u8 0)), (.lit (.int .u8 0)), (.lit (.int .u8 0)), (.lit (.int .u8 0)), (.lit (.int .u8 0)), (.lit (.int .u8 0)), (.lit (.int .u8 0)), (.lit (.int .u8 0)), (.lit (.int .u8 0)), (.lit (.int .u8 0)), (.lit (.int .u8 0)), (.lit (.int .u8 0)), (.lit (.int .u8 0)), (.lit (.int .u8 0)), (.lit (.int .u8 0)), (.lit (.int .u8 0)), (.lit (.int .u8 0)), (.lit (.int .u8 0)), (.lit (.int .u8 0)), (.lit (.int .u8 0)), (.lit (.int .u8 0)), (.lit (.int .u8 0)), (.lit (.int .u8 0)), (.lit (.int .u8 0)), (.lit (.int .u8 0)), (.lit (.int .u8 0)), (.lit (.int .u8 0)), (.lit (.int .u8 0)), (.lit (.int .u8 0)), (.lit (.int .u8 0)), (.lit (.int .u8 0)), (.lit (.int .u8 0)), (.lit (.int .u8 0)), (.lit (.int .u8 0)), (.lit (.int .u8 0)), (.lit (.int .u8 0)), (.lit (.int .u8 0)), (.lit (.int .u8 0)), (.lit (.int .u8 0)), (.lit (.int .u8 0)), (.lit (.int .u8 0)), (.lit (.int .u8 0)), (.lit (.int .u8 0)), (.lit (.int .u8 0)), (.lit (.int .u8 0)), (.lit (.int .u8 0)), (.lit (.int .u8 0)), (.lit (.int .u8 0)), (.lit (.int .u8 0)), (.lit (.int .u8 0)), (.lit (.int .u8 0)), (.lit (.int .u8 0)), (.lit (.int .u8 0)), (.lit (.int .u8 0)), (.lit (.int .u8 0)), (.lit (.int .u8 0)), (.lit (.int .u8 0)), (.lit (.int .u8 0)), (.lit (.int .u8 0)), (.lit (.int .u8 0)), (.lit (.int .u8 0)), (.lit (.int .u8 0)), (.lit (.int .u8 0)), (.lit (.int .u8 0)), (.lit (.int .u8 0)), (.lit (.int .u8 0)), (.lit (.int .u8 0)), (.lit (.int .u8 0)), (.lit (.int .u8 0)), (.lit (.int .u8 0)), (.lit (.int .u8 0)), (.lit (.int .u8 0)), (.lit (.int .u8 0)), (.lit (.int .u8 0)), (.lit (.int .u8 0)), (.lit (.int .u8 0)), (.lit (.int .u8 0)), (.lit (.int .u8 0)), (.lit (.int .u8 0)), (.lit (.int .u8 0)), (.lit (.int .u8 0)), (.lit (.int .u8 0)), (.lit (.int .u8 0)), (.lit (.int .u8 0)), (.lit (.int .u8 0)), (.lit (.int .u8 0)), (.lit (.int .u8 0)), (.lit (.int .u8 0)), (.lit (.int .u8 0)), (.lit (.int .u8 0)), (.lit (.int .u8 0)), (.lit (.int .u8 0)), (.lit (.int .u8 0)), (.lit (.int .u8 0)), (.lit (.int .u8 0)), (.lit (.int .u8 0)), (.lit (.int .u8 0)), (.lit (.int .u8 0)), (.lit (.int .u8 0)), (.lit (.int .u8 0)), (.lit (.int .u8 0)), (.lit (.int .u8 0)), (.lit (.int .u8 0)), (.lit (.int .u8 0)), (.lit (.int .u8 0)), (.lit (.int .u8 0)), (.lit (.int .u8 0)), (.lit (.int .u8 0)), (.lit (.int .u8 0)), (.lit (.int .u8 0)), (.lit (.int .u8 0)), (.lit (.int .u8 0)), (.lit (.int .u8 0)), (.lit (.int .u8 0)), (.lit (.int .u8 0)), (.lit (.int .u8 0)), (.lit (.int .u8 0)), (.lit (.int .u8 0)), (.lit (.int .u8 0)), (.lit (.int .u8 0)), (.lit (.int .u8 0)), (.lit (.int .u8 0)), (.lit (.int .u8 0)), (.lit (.int .u8 0)), (.lit (.int .u8 0)), (.lit (.int .u8 0)), (.lit (.int .u8 0)), (.lit (.int .u8 0)), (.lit (.int .u8 0)), (.lit (.int .u8 0)), (.lit (.int .u8 0)), (.lit (.int .u8 0)), (.lit (.int .u8 0)), (.lit (.int .u8 0)), (.lit (.int .u8 0)), (.lit (.int .u8 0)), (.lit (.int .u8 0)), (.lit (.int .u8 0)), (.lit (.int .u8 0)), (.lit (.int .u8 0)), (.lit (.int .u8 0)), (.lit (.int .u8 0)), (.lit (.int .u8 0)), (.lit (.int .u8 0)), (.lit (.int .u8 0)), (.lit (.int .u8 0)), (.lit (.int .u8 0)), (.lit (.int .u8 0)), (.lit (.int .u8 0)), (.lit (.int .u8 0)), (.lit (.int .u8 0)), (.lit (.int .u8 0)), (.lit (.int .u8 0)), (.lit (.int .u8 0)), (.lit (.int .u8 0)), (.lit (.int .u8 0)), (.lit (.int .u8 0)), (.lit (.int .u8 0)), (.lit (.int .u8 0)), (.lit (.int .u8 0)), (.lit (.int .u8 0)), (.lit (.int .u8 0)), (.lit (.int .u8 0)), (.lit (.int .u8 0)), (.lit (.int .u8 0)), (.lit (.int .u8 0)), (.lit (.int .u8 0)), (.lit (.int .u8 0)), (.lit (.int .u8 0)), (.lit (.int .u8 0)), (.lit (.int .u8 0)), (.lit (.int .u8 0)), (.lit (.int .u8 0)), (.lit (.int .u8 0)), (.lit (.int .u8 0)), (.lit (.int .u8 0)), (.lit (.int .u8 0)), (.lit (.int .u8 0)), (.lit (.int .u8 0)), (.lit (.int .u8 0)), (.lit (.int .u8 0)), (.lit (.int .u8 0)), (.lit (.int .u8 0)), (.lit (.int .u8 0)), (.lit (.int .u8 0)), (.lit (.int .u8 0)), (.lit (.int .u8 0)), (.lit (.int .u8 0)), (.lit (.int .u8 0)), (.lit (.int .u8 0)), (.lit (.int .u8 0)), (.lit (.int .u8 0)), (.lit (.int .u8 0)), (.lit (.int .u8 0)), (.lit (.int .u8 0)), (.lit (.int .u8 0)), (.lit (.int .u8 0)), (.lit (.int .u8 0)), (.lit (.int .u8 0)), (.lit (.int .u8 0)), (.lit (.int .u8 0)), (.lit (.int .u8 0)), (.lit (.int .u8 0)), (.lit (.int .u8 0)), (.lit (.int .u8 0)), (.lit (.int .u8 0)), (.lit (.int .u8 0)), (.lit (.int .u8 0)), (.lit (.int .u8 0)), (.lit (.int .u8 0)), (.lit (.int .u8 0)), (.lit (.int .u8 0)), (.lit (.int .u8 0)), (.lit (.int .u8 0)), (.lit (.int .u8 0)), (.lit (.int .u8 0)), (.lit (.int .u8 0)), (.lit (.int .u8 0)), (.lit (.int .u8 0)), (.lit (.int .u8 0)), (.lit (.int .u8 0)), (.lit (.int .u8 0)), (.lit (.int .u8 0)), (.lit (.int .u8 0)), (.lit (.int .u8 0)), (.lit (.int .u8 0)), (.lit (.int .u8 0)), (.lit (.int .u8 0)), (.lit (.int .u8 0)), (.lit (.int .u8 0)), (.lit (.int .u8 0)), (.lit (.int .u8 0)), (.lit (.int .u8 0)), (.lit (.int .u8 0)), (.lit (.int .u8 0)), (.lit (.int .u8 0)), (.lit (.int .u8 0)), (.lit (.int .u8 0)), (.lit (.int .u8 0)), (.lit (.int .u8 0)), (.lit (.int .u8 0)), (.lit (.int .u8 0)), (.lit (.int .u8 0)), (.lit (.int .u8 0)), (.lit (.int .u8 0)), (.lit (.int .u8 0)), (.lit (.int .u8 0)), (.lit (.int .u8 0)), (.lit (.int .u8 0)), (.lit (.int .u8 0)), (.lit (.int .u8 0)), (.lit (.int .u8 0)), (.lit (.int .u8 0)), (.lit (.int .u8 0)), (.lit (.int .u8 0)), (.lit (.int .u8 0)), (.lit (.int .u8 0)), (.lit (.int .u8 0)), (.lit (.int .u8 0)), (.lit (.int .u8 0)), (.lit (.int .u8 0)), (.lit (.int .u8 0)), (.lit (.int .u8 0)), (.lit (.int .u8 0)), (.lit (.int .u8 0)), (.lit (.int .u8 0)), (.lit (.int .u8 0)), (.lit (.int .u8 0)), (.lit (.int .u8 0)), (.lit (.int .u8 0)), (.lit (.int .u8 0)), (.lit (.int .u8 0)), (.lit (.int .u8 0)), (.lit (.int .u8 0)), (.lit (.int .u8 0)), (.lit (.int .u8 0)), (.lit (.int .u8 0)), (.lit (.int .u8 0)), (.lit (.int .u8 0)), (.lit (.int .u8 0)), (.lit (.int .u8 0)), (.lit (.int .u8 0)), (.lit (.int .u8 0)), (.lit (.int .u8 0)), (.lit (.int .u8 0)), (.lit (.int .u8 0)), (.lit (.int .u8 0)), (.lit (.int .u8 0)), (.lit (.int .u8 0)), (.lit (.int .u8 0)), (.lit (.int .u8 0)), (.lit (.int .u8 0)), (.lit (.int .u8 0)), (.lit (.int .u8 0)), (.lit (.int .u8 0)), (.lit (.int .u8 0)), (.lit (.int .u8 0)), (.lit (.int .u8 0)), (.lit (.int .u8 0)), (.lit (.int .u8 0)), (.lit (.int .u8 0)), (.lit (.int .u8 0)), (.lit (.int .u8 0)), (.lit (.int .u8 0)), (.lit (.int .u8 0)), (.lit (.int .u8 0)), (.lit (.int .u8 0)), (.lit (.int .u8 0)), (.lit (.int .u8 0)), (.lit (.int .u8 0)), (.lit (.int .u8 0)), (.lit (.int .u8 0)), (.lit (.int .u8 0)), (.lit (.int .u8 0)), (.lit (.int .u8 0)), (.lit (.int .u8 0)), (.lit (.int .u8 0)), (.lit (.int .u8 0)), (.lit (.int .u8 0)), (.lit (.int .u8 0)), (.lit (.int .u8 0)), (.lit (.int .u8 0)), (.lit (.int .u8 0)), (.lit (.int .u8 0)), (.lit (.int .u8 0)), (.lit (.int .u8 0)), (.lit (.int .u8 0)), (.lit (.int .u8 0)), (.lit (.int .u8 0)), (.lit (.int .u8 0)), (.lit (.int .u8 0)), (.lit (.int .u8 0)), (.lit (.int .u8 0)), (.lit (.int .u8 0)), (.lit (.int .u8 0)), (.lit (.int .u8 0)), (.lit (.int .u8 0)), (.lit (.int .u8 0)), (.lit (.int .u8 0)), (.lit (.int .u8 0)), (.lit (.int .u8 0)), (.lit (.int .u8 0)), (.lit (.int .u8 0)), (.lit (.int .u8 0)), (.lit (.int .u8 0)), (.lit (.int .u8 0)), (.lit (.int .u8 0)), (.lit (.int .u8 0)), (.lit (.int .u8 0)), (.lit (.int .u8 0)), (.lit (.int .u8 0)), (.lit (.int .u8 0)), (.lit (.int .u8 0)), (.lit (.int .u8 0)), (.lit (.int .u8 0)), (.lit (.int .u8 0)), (.lit (.int .u8 0))] false)) (.node (.node (.node (.node (.node (.node .leaf (some (.cells [(.lit (.int .i64 0)), (.lit (.int .i64 0)), (.lit (.int .i64 0))] false)) .leaf) (some (.cells [(.lit (.int .i64 0))] false)) (.node .leaf (some (.cells [(.lit (.int .i64 0)), (.lit (.int .i64 0))] false)) .leaf)) (some (.cells [(.lit (.int .i64 0)), (.lit (.int .i64 0))] false)) (.node (.node .leaf (some (.cells [(.lit (.int .i64 0)), (.lit (.int .i64 0)), (.lit (.int .i64 0))] false)) .leaf) (some (.cells [(.lit (.int .i64 0)), (.lit (.int .i64 0)), (.lit (.int .i64 0))] false)) (.node .leaf (some (.cells [(.lit (.int .i64 0)), (.lit (.int .i64 0)), (.lit (.int .i64 0))] false)) .leaf))) (some (.cells [(.lit (.int .i64 15)), (.lit (.int .i64 1))] false)) (.node (.node (.node .leaf (some (.cells [(.lit (.int .i64 0)), (.lit (.int .i64 0)), (.lit (.int .i64 0))] false)) .leaf) (some (.cells [(.lit (.int .i64 0)), (.lit (.int .i64 0)), (.lit (.int .i64 0))] false)) (.node .leaf (some (.cells [(.lit (.int .i64 0)), (.lit (.int .i64 0)), (.lit (.int .i64 0))] false)) .leaf)) (some (.cells [(.lit (.int .i64 0)), (.lit (.int .i64 0))] false)) (.node (.node .leaf (some (.cells [(.lit (.int .i64 0)), (.lit (.int .i64 0)), (.lit (.int .i64 0))] false)) .leaf) (some (.cells [(.lit (.int .i64 0)), (.lit (.int .i64 0))] false)) (.node .leaf (some (.cells [(.lit (.int .i64 1)), (.lit (.int .i64 1)), (.lit (.int .i64 0))] false)) .leaf)))) (some (.map [] 0)) (.node (.node (.node (.node .leaf (some (.cells [(.lit (.int .i64 0)), (.lit (.int .i64 0)), (.lit (.int .i64 0))] false)) .leaf) (some (.cells [(.lit (.int .i64 0)), (.lit (.int .i64 0))] false)) (.node .leaf (some (.cells [(.lit (.int .i64 0)), (.lit (.int .i64 0)), (.lit (.int .i64 0))] false)) .leaf)) (some (.cells [(.lit (.int .i64 0)), (.lit (.int .i64 0))] false)) (.node (.node .leaf (some (.cells [(.lit (.int .i64 0)), (.lit (.int .i64 0)), (.lit (.int .i64 0))] false)) .leaf) (some (.cells [(.lit (.int .i64 2)), (.lit (.int .i64 15)), (.lit (.int .i64 1))] false)) (.node .leaf (some (.cells [(.lit (.int .i64 1)), (.lit (.int .i64 2)), (.lit (.int .i64 0))] false)) .leaf))) (some (.cells [(.lit (.int .i64 0)), (.lit (.int .i64 0))] false)) (.node (.node (.node .leaf (some (.cells [(.lit (.int .i64 0)), (.lit (.int .i64 0))] false)) .leaf) (some (.cells [(.lit (.int .i64 0)), (.lit (.int .i64 0)), (.lit (.int .i64 0))] false)) (.node .leaf (some (.cells [(.lit (.int .i64 0)), (.lit (.int .i64 0)), (.lit (.int .i64 0))] false)) .leaf)) (some (.cells [(.lit (.int .i64 0))] false)) (.node (.node .leaf (some (.cells [(.lit (.int .i64 0)), (.lit (.int .i64 0)), (.lit (.int .i64 0))] false)) .leaf) (some (.cells [(.lit (.int .i64 0)), (.lit (.int .i64 0)), (.lit (.int .i64 0))] false)) .leaf)))) (some (.cells [(.lit (.bool true)), (.lit (.bool true)), (.lit (.bool true)), (.lit (.bool false)), (.lit (.bool false)), (.lit (.bool false)), (.lit (.bool false)), (.lit (.bool false))] false)) (.node (.node (.node (.node (.node .leaf (some (.cells [(.lit (.int .i64 0)), (.lit (.int .i64 0))] false)) .leaf) (some (.iter (some 5) 0 [] 0)) (.node .leaf (some (.cells [(.lit (.int .i64 0)), (.lit (.int .i64 0)), (.lit (.int .i64 0))] false)) .leaf)) (some (.cells [(.lit (.int .i64 0)), (.lit (.int .i64 0))] false)) (.node (.node .leaf (some (.cells [(.lit (.int .i64 0)), (.lit (.int .i64 0)), (.lit (.int .i64 0))] false)) .leaf) (some (.cells [(.lit (.int .i64 0)), (.lit (.int .i64 0)), (.lit (.int .i64 0))] false)) (.node .leaf (some (.cells [(.lit (.int .i64 0)), (.lit (.int .i64 0)), (.lit (.int .i64 0))] false)) .leaf))) (some (.iter (some 4) 0 [] 0)) (.node (.node (.node .leaf (some (.cells [(.lit (.int .i64 0)), (.lit (.int .i64 0)), (.lit (.int .i64 0))] false)) .leaf) (some (.cells [(.lit (.int .i64 0)), (.lit (.int .i64 0)), (.lit (.int .i64 0))] false)) (.node .leaf (some (.cells [(.lit (.int .i64 0)), (.lit (.int .i64 0))] false)) .leaf)) (some (.cells [(.lit (.int .i64 0)), (.lit (.int .i64 0))] false)) (.node (.node .leaf (some (.cells [(.lit (.int .i64 0)), (.lit (.int .i64 0)), (.lit (.int .i64 0))] false)) .leaf) (some (.cells [(.lit (.int .i64 0)), (.lit (.int .i64 0)), (.lit (.int .i64 0))] false)) (.node .leaf (some (.cells [(.lit (.int .i64 1)), (.lit (.int .i64 1)), (.lit (.int .i64 0))] false)) .leaf)))) (some (.map [⟨(.int .i64 0), (.lit (.int .i64 2)), 0⟩] 1)) (.node (.node (.node (.node .leaf (some (.cells [(.lit (.int .i64 0)), (.lit (.int .i64 0)), (.lit (.int .i64 0))] false)) .leaf) (some (.cells [(.lit (.int .i64 0)), (.lit (.int .i64 0)), (.lit (.int .i64 0))] false)) (.node .leaf (some (.cells [(.lit (.int .i64 0)), (.lit (.int .i64 0)), (.lit (.int .i64 0))] false)) .leaf)) (some (.cells [(.lit (.int .i64 0)), (.lit (.int .i64 0))] false)) (.node (.node .leaf (some (.cells [(.lit (.int .i64 0)), (.lit (.int .i64 0))] false)) .leaf) (some (.cells [(.lit (.int .i64 2)), (.lit (.int .i64 15)), (.lit (.int .i64 1))] false)) (.node .leaf (some (.cells [(.lit (.int .i64 1)), (.lit (.int .i64 2)), (.lit (.int .i64 0))] false)) .leaf))) (some (.cells [(.lit (.int .i64 0)), (.lit (.int .i64 0))] false)) (.node (.node (.node .leaf (some (.cells [(.lit (.int .i64 0)), (.lit (.int .i64 0)), (.lit (.int .i64 0))] false)) .leaf) (some (.cells [(.lit (.int .i64 0)), (.lit (.int .i64 0))] false)) (.node .leaf (some (.cells [(.lit (.int .i64 0)), (.lit (.int .i64 0)), (.lit (.int .i64 0))] false)) .leaf)) (some (.cells [(.lit (.int .i64 0))] false)) (.node (.node .leaf (some (.cells [(.lit (.int .i64 0)), (.lit (.int .i64 0)), (.lit (.int .i64 0))] false)) .leaf) (some (.cells [(.lit (.int .i64 0)), (.lit (.int .i64 0)), (.lit (.int .i64 0))] false)) .leaf)))))), 124, 0, 0⟩

noncomputable def pre : List Code := match Try.f9.body with
  | some (.seq c0 (.seq c1 (.seq c2 (.seq c3 (.seq c4 _))))) => [c0, c1, c2, c3, c4]
  | _ => []

noncomputable def post : Code := match Try.f9.body with
  | some (.seq c0 (.seq c1 (.seq c2 (.seq c3 (.seq c4 r))))) => r
  | _ => .skip

noncomputable def secondOk : Bool := match run Try.prog groupPrims noFacts (drawRun Try.prog) 100000 (.code post act1) st1 with
  | .ok (.out .ret a, s) => (match resA Try.prog a s Try.f9.results.toList with
    | .ok [.lit (.bool true)] => Nat.ble s.next 1000000
    | _ => false)
  | _ => false

end Go.Proofs.Ytdhnfhhmacjajaa.graftNone


/-
  graft's begun: the run up to its first Set.
-/
namespace Go.Proofs.Ytdhnfhhmacjajaa.graftNone
open Go Go.RowKit Go.Am

set_option maxRecDepth 100000 in
theorem first : run Try.prog groupPrims noFacts (drawRun Try.prog) 100000 (.code (seqs pre .skip) ⟨.leaf, 95⟩) st0 = .ok (.out .normal act1, st1) := by kernel_rfl

end Go.Proofs.Ytdhnfhhmacjajaa.graftNone


/-
  graft's begun: the run behind its first Set.
-/
namespace Go.Proofs.Ytdhnfhhmacjajaa.graftNone
open Go Go.RowKit Go.Am

theorem second : secondOk = true := by decide +kernel

end Go.Proofs.Ytdhnfhhmacjajaa.graftNone


/-
  graft's begun: it answers true.
-/
namespace Go.Proofs.Ytdhnfhhmacjajaa
open Go Go.RowKit Go.Am Go.Proofs.Ytdhnfhhmacjajaa.graftNone
set_option linter.unusedVariables false
set_option linter.unusedSimpArgs false

theorem graft_begun (w : World) : Calls Try.prog 9 #[] w fun e w' => e = .returned (.bool true) ∧ GrowBut w w' [] := by
  have hm : Try.prog.follows .mixedOrders = true := by kernel_rfl
  have hb : Try.f9.body = some (seqs pre post) := by kernel_rfl
  have hnt : Try.f9.ntmps = 95 := by kernel_rfl
  have hM : st1.next ≤ 1000000 := by
    have : Nat.ble st1.next 1000000 = true := by kernel_rfl
    exact Nat.le_of_ble_eq_true this
  have h2 := second
  unfold secondOk at h2
  split at h2
  · rename_i a s hrun
    split at h2
    · rename_i hres
      have hcall : CallTo 1000000 Try.prog (fun _ => (.i64, 0)) w.heap.size w 9 [] st0 (fun v _ => v = .lit (.bool true)) := by
        refine CallTo.body (fn := Try.f9) (body := seqs pre post) (t := .leaf) Try.func9 hb ⟨by kernel_rfl, by kernel_rfl⟩ (fun j => by simp) ?_
        rw [hnt]
        refine prefix_to hm noFacts_ok groupPrims_ok hM ?_ pre 100000 _ st0 first
        exact CodeTo.of_run (run_ok hm noFacts_ok groupPrims_ok 100000) hrun (Nat.le_of_ble_eq_true h2) ⟨.inr rfl, _, hres, rfl⟩
      refine (CallTo.calls ⟨rfl, rfl, rfl⟩ hcall).mono fun e w' ⟨v, u, ρ', ⟨_, hv⟩, he, hu, hbl⟩ => ?_
      subst hv
      obtain ⟨rfl, _⟩ := hu
      exact ⟨he, .of_below hbl⟩
    · cases h2
  · cases h2

end Go.Proofs.Ytdhnfhhmacjajaa


/-
  GraftFits: the walk.
-/
namespace Go.Proofs.Ytdhnfhhmacjajaa
open Go Go.RowKit Go.Maps Go.Am Go.Shelf
set_option linter.unusedVariables false
set_option linter.unusedSimpArgs false

theorem mem_addI {L : List Int} {x y : Int} (h : x ∈ L ∨ x = y) : x ∈ addI L y := by
  unfold addI
  by_cases e : L.contains y = true
  · rw [if_pos e]
    rcases h with h | rfl
    · exact h
    · simpa using e
  · rw [if_neg e]
    rcases h with h | rfl <;> simp [*]

theorem mem_fold {f : Int → Int} {x : Int} : ∀ (zs : List Int) (L : List Int), (x ∈ L ∨ ∃ p ∈ zs, 0 ≤ p ∧ p < 4096 ∧ x = f p) → x ∈ zs.foldl (fun L p => if 0 ≤ p ∧ p < 4096 then addI L (f p) else L) L
  | [], L, h => by
    rcases h with h | ⟨p, hp, _⟩
    · exact h
    · cases hp
  | z :: zs, L, h => by
    rw [List.foldl_cons]
    refine mem_fold zs _ ?_
    rcases h with h | ⟨p, hp, h1, h2, h3⟩
    · left
      split
      · exact mem_addI (.inl h)
      · exact h
    · rcases List.mem_cons.1 hp with rfl | hp
      · left
        rw [if_pos ⟨h1, h2⟩]
        exact mem_addI (.inr h3)
      · exact .inr ⟨p, hp, h1, h2, h3⟩

theorem sub_len : ∀ {A B : List Int}, A.Nodup → (∀ x ∈ A, x ∈ B) → A.length ≤ B.length
  | [], B, _, _ => by simp
  | a :: A, B, hn, hs => by
    have hn' := List.nodup_cons.1 hn
    have ha : a ∈ B := hs a (by simp)
    have := sub_len (A := A) (B := B.erase a) hn'.2 (fun x hx => (List.mem_erase_of_ne (fun e : x = a => hn'.1 (by rw [← e]; exact hx))).2 (hs x (by simp [hx])))
    rw [List.length_erase_of_mem ha] at this
    have hp := List.length_pos_of_mem ha
    simp only [List.length_cons]
    omega

/-- A map that differs at those pages alone has no more tables than they would want. -/
theorem fit_bound {F F' : LfF} {zs : List Int} (h : ∀ k, k ∉ zs → F' k = F k) (hok : LfOk F') : tabsN F' ≤ fitN F zs := by
  have h1 : (midsL F' 256).length ≤ (fitM F zs).length := sub_len (nodup_midsL F' 256) (fun x hx => by
    obtain ⟨g, hg, rfl, ha⟩ := (mem_midsL F' x 256).1 hx
    obtain ⟨j, hj, hs⟩ := (anyG_iff F' g 16).1 ha
    refine mem_fold (f := fun p => p / 256) zs _ ?_
    by_cases hm : ((g : Int) * 16 + j) ∈ zs
    · exact .inr ⟨_, hm, by omega, by omega, by omega⟩
    · rw [h _ hm] at hs
      exact .inl ((mem_midsL F _ 256).2 ⟨g, hg, rfl, (anyG_iff F g 16).2 ⟨j, hj, hs⟩⟩))
  have h2 : (endsL F' 256).length ≤ (fitE F zs).length := sub_len (nodup_endsL F' 256) (fun x hx => by
    obtain ⟨g, hg, rfl, ha, hw⟩ := (mem_endsL F' x 256).1 hx
    refine mem_fold (f := fun p => p / 16) zs _ ?_
    by_cases hm : ∃ j : Nat, j < 16 ∧ ((g : Int) * 16 + j) ∈ zs
    · obtain ⟨j, hj, hm⟩ := hm
      exact .inr ⟨_, hm, by omega, by omega, by omega⟩
    · have hsame : ∀ j : Nat, j < 16 → F' ((g : Int) * 16 + j) = F ((g : Int) * 16 + j) := fun j hj => h _ (fun hm' => hm ⟨j, hj, hm'⟩)
      rw [anyG_congr hsame 16 (Nat.le_refl _)] at ha
      rw [wholeG_congr hsame 16 (Nat.le_refl _)] at hw
      exact .inl ((mem_endsL F _ 256).2 ⟨g, hg, rfl, ha, hw⟩))
  unfold tabsN fitN
  omega

theorem TabAt.neRow {w : World} {q : IntKind} {kt e : TypeId} {b n base size m : Nat} {f : Int → Option Value} {v : Value} {xs : List Value} (h : TabAt w q kt b n f) (hrow : w.ownsRow base e size v m xs) : some b ≠ v.ownBlock := by
  obtain ⟨D, hown, _⟩ := h.own
  obtain ⟨es, clock, hb, _⟩ := hown
  rcases hrow.2 with ⟨rfl, _⟩ | ⟨g, cap, cur, rfl, _, hg, _⟩
  · simp [Value.ownBlock]
  · intro e1
    have : b = g := by simpa [Value.ownBlock] using e1
    subst this
    rw [hb] at hg
    cases hg

/-- A row of one's own grows beside a tree. -/
theorem GrAt.keptRow {w w' : World} {A : GA} {k : Nat} {F : LfF} {base size m : Nat} {e : TypeId} {v : Value} {xs : List Value} (h : GrAt w A [] k F) (hrow : w.ownsRow base e size v m xs) (hg : w.grownBy w' v.ownBlock) (hn : ∀ b, v.ownBlock = some b → b ∉ A.all) : GrAt w' A [] k F := by
  obtain ⟨mem, tk, b, nh, nt, MI, EN, ow, hT, h1, h2, h3, h4, h5, h6, h7⟩ := h.tree
  have hgb := GrowBut.of_rowG hg
  have hx : ∀ x ∈ A.all, x ∉ v.ownBlock.toList := fun x hx hm => hn x (by simpa using hm) hx
  simp only [GA.all, List.mem_cons, List.not_mem_nil, or_false, forall_eq_or_imp, forall_eq] at hx
  obtain ⟨a1, a2, a3, a4, a5, a6, a7⟩ := hx
  exact ⟨fun x hx => (by cases hx), mem, tk, b, nh, nt, MI, EN, ow, hT.kept hgb a1 a2 a3 a4 a5 (fun hm => hT.have_.neRow hrow (Option.mem_toList.1 hm).symm) a6 a7, h1, h2, h3, h4, h5, h6, h7⟩

def triL (ys : List Int) : List Int := ys.map (fun y => 3 * y)

theorem triL_getD {ys : List Int} {j : Nat} (h : j < ys.length) : (triL ys).getD j 0 = 3 * ys.getD j 0 := by
  unfold triL
  rw [List.getD_eq_getElem?_getD, List.getElem?_map, List.getD_eq_getElem?_getD, List.getElem?_eq_getElem h]; rfl

set_option maxRecDepth 100000 in
set_option maxHeartbeats 16000000 in
theorem fits_walk (zs ys : List Int) (p q : Option Addr) (c1 c2 : Nat) (ta : Nat) (cut : Bool) (w : World) (hz : CameU w p zs) (hy : CameU w q ys) (hta : ta < 256) :
    Calls Try.prog 5 #[.slice p zs.length c1, .slice q ys.length c2, .int .u8 ta, .bool cut] w fun e w' => e = .returned (.bool true) ∧ GrowBut w w' [] := by
  have hB := graft_begun w
  by_cases h20 : 5 < zs.length
  · have b1 : decide ((5 : Int) < (zs.length : Int)) = true := decide_eq_true (by omega)
    have b2 : decide (5 < zs.length) = true := decide_eq_true h20
    go_enter Try.func5, Try.ntmps5
    go_wp2_with (first
      | (go_at_call 9; refine hB.mono ?_; rintro e w1 ⟨rfl, hg1⟩)
      | go_in)
    go_ret
    exact ⟨rfl, hg1⟩
  have b1 : decide ((5 : Int) < (zs.length : Int)) = false := decide_eq_false (by omega)
  have b2 : decide (5 < zs.length) = false := decide_eq_false h20
  by_cases h10 : 12 < ys.length
  · have b3 : decide ((12 : Int) < (ys.length : Int)) = true := decide_eq_true (by omega)
    have b4 : decide (12 < ys.length) = true := decide_eq_true h10
    go_enter Try.func5, Try.ntmps5
    go_wp2_with (first
      | (go_at_call 9; refine hB.mono ?_; rintro e w1 ⟨rfl, hg1⟩)
      | go_in)
    go_ret
    exact ⟨rfl, hg1⟩
  have b3 : decide ((12 : Int) < (ys.length : Int)) = false := decide_eq_false (by omega)
  have b4 : decide (12 < ys.length) = false := decide_eq_false h10
  obtain ⟨n, hn⟩ : ∃ n : Nat, n = 3 + ta % 8 := ⟨_, rfl⟩
  have hn1 : (3 : Int) + (ta : Int) % 8 = (n : Int) := by omega
  have hn2 : 3 ≤ n ∧ n ≤ 10 := by omega
  have ht0 : 0 ≤ (ta : Int) % 8 ∧ (ta : Int) % 8 < 8 := by omega
  have hw1 := IntWalk.i64_in ((ta : Int) % 8) (by omega)
  have hw2 := IntWalk.i64_in (n : Int) (by omega)
  have hm0 : ∀ w1, _ := fun w1 => ramNew 200 100 w1 (by omega) (by omega)
  have hs0 : ∀ w1, _ := fun w1 => stockNew 0 n w1 (by omega) (by omega)
  clear hn
  go_enter Try.func5, Try.ntmps5
  go_upto_region 10 with (first
    | (go_at_call 9; refine hB.mono ?_; rintro e w1 ⟨rfl, hg1⟩)
    | (go_at_call 10; refine (hm0 w1).mono ?_; rintro e w2 ⟨M, L, rfl, hR2, hM2, hL2, hg2⟩; have hsl2 := hR2.lt)
    | (go_at_call 11; refine (hs0 w2).mono ?_; rintro e w3 ⟨S, T, rfl, hS3, hS3l, hT3l, hg3⟩; have hR3 := hR2.kept hg3 (by simp) (by simp); have hN := newG M L S T 200 100 0 n _ [] w3 hR3 hS3 (by omega) (by omega) (by simp) (by omega) (by omega))
    | (go_at_call 12; refine hN.mono ?_; rintro e w4 ⟨A, rfl, hA1, hA2, hA3, hA4, hA5, hA6, hA7, hA8, hlt, hlm, hle, hG4, hg4⟩)
    | go_in)
  have z1 := hg1.size
  have z2 := hg2.size
  have z3 := hg3.size
  have hbl : ∀ x ∈ A.bl, w.heap.size ≤ x := fun x hx => by
    simp only [GA.bl, List.mem_cons, List.not_mem_nil, or_false] at hx
    rcases hx with rfl | rfl | rfl | rfl | rfl <;> omega
  have hgw : GrowBut w w4 [] := ((hg1.trans hg2).trans hg3).from hg4 (fun x hx => .inr (by simp at hx; omega))
  have hnxt : ∀ {a b : World}, GrowBut w a [] → GrowBut a b A.bl → GrowBut w b [] := fun h1 h2 => h1.from h2 (fun x hx => .inr (hbl x hx))
  have hAn : HideG (A.n = n) := hA8
  clear hA1 hA2 hA3 hA4 hA5 hA6 hA7 hA8 hlt hlm hle hg4 hg3 hg2 hg1 hN hR2 hR3 hS3 hM2 hL2 hS3l hT3l hsl2 hB hm0 hs0 z1 z2 z3 hn1 ht0 hw1 b1 b2 b3 b4
  go_wp2_with fail
  go_loopw [14] (fun v14 wx => ∃ (i : Nat) (F : LfF), v14 = .int .i64 i ∧ i ≤ zs.length ∧ GrAt wx A [] (16 * i) F ∧ GrowBut w wx []) (fun v14 _ => zs.length - natOf v14)
  case atStart => exact ⟨0, noneL, rfl, by omega, hG4, hgw⟩
  case round =>
    obtain ⟨i, F, rfl, hi, hG, hgr⟩ := hrel
    by_cases hlt : i < zs.length
    · have hlt' : (i : Int) < (zs.length : Int) := by omega
      go_wp2_with fail
      go_loopw [15] (fun v15 wx => ∃ (k : Nat) (F : LfF), v15 = .int .i64 k ∧ k ≤ 16 ∧ GrAt wx A [] (16 * i + k) F ∧ GrowBut w wx []) (fun v15 _ => 16 - natOf v15)
      case atStart => exact ⟨0, F, rfl, by omega, hG, hgr⟩
      case round =>
        clear hG hgr
        obtain ⟨k, F', rfl, hk, hG, hgr⟩ := hrel
        by_cases hlk : k < 16
        · have hlk' : (k : Int) < 16 := by omega
          obtain ⟨g, off, rfl, cz, pz0, pz1⟩ := hz.get hgr hlt
          generalize zs.getD i 0 = x at cz pz0 pz1
          have hx0 : 0 ≤ x % 40 ∧ x % 40 < 40 := by omega
          have hw3 := IntWalk.i64_in (x % 40) (by omega)
          have hw4 := IntWalk.i64_in (16 * (x % 40)) (by omega)
          have hw5 := IntWalk.i64_in (16 * (x % 40) + (k : Int)) (by omega)
          have hw6 := IntWalk.i64_in (100 + (k : Int)) (by omega)
          have hS := setG A [] (16 * i + k) F' (16 * (x % 40) + (k : Int)) (100 + (k : Int), 3) wr hG (by omega) ⟨by omega, by omega, by show 0 ≤ 100 + (k : Int); omega, by show 100 + (k : Int) < 240; omega, by show (1 : Int) ≤ 3; decide, by show (3 : Int) ≤ 7; decide⟩
          unfold leafV at hS
          simp only at hS
          clear hG
          go_wp2_with (first
            | (go_at_call 16; refine hS.mono ?_; rintro e w5 ⟨rfl, hG5, hg5⟩)
            | go_in)
          exact ⟨⟨k + 1, _, by simp, by omega, hG5, hnxt hgr hg5⟩, by simp [natOf]; omega⟩
        · have hk16 : k = 16 := by omega
          subst hk16
          go_wp2_with fail
          exact ⟨⟨i + 1, F', by simp, by omega, by rw [show 16 * (i + 1) = 16 * i + 16 by omega]; exact hG, hgr⟩, by simp [natOf]; omega⟩
    · have hil : i = zs.length := by omega
      subst hil
      clear hG4 hgw
      obtain ⟨i0, hi0, hz0, hz1, hz2⟩ := info_parts infoI
      go_wp2_with fail
      go_loopw [16, 17] (fun v16 v17 wx => ∃ j : Nat, v17 = .int .i64 j ∧ j ≤ ys.length ∧ wx.ownsRow w.heap.size 3 1 v16 (triL (ys.take j)).length ((triL (ys.take j)).map (Value.int .i64)) ∧ (∀ b, v16.ownBlock = some b → b ∉ A.all) ∧ GrAt wx A [] (16 * zs.length) F ∧ GrowBut w wx []) (fun _ v17 _ => ys.length - natOf v17)
      case atStart => exact ⟨0, rfl, by omega, World.ownsRow_nil _ _ _ _, fun b hb => by simp [Value.ownBlock] at hb, hG, hgr⟩
      case round =>
        clear hG hgr
        obtain ⟨j, rfl, hj, hrow, hnb, hG, hgr⟩ := hrel
        have hszr := hgr.size
        by_cases hlj : j < ys.length
        · have hlj' : (j : Int) < (ys.length : Int) := by omega
          obtain ⟨gy, oy, rfl, cy, y0, y1⟩ := hy.get hgr hlj
          have htri : triL (ys.take (j + 1)) = triL (ys.take j) ++ [3 * ys.getD j 0] := by rw [take_snocG hlj]; unfold triL; rw [List.map_append]; rfl
          have hlen : (triL (ys.take j)).length ≤ 12 := by unfold triL; rw [List.length_map]; have := List.length_take_le j ys; omega
          generalize ys.getD j 0 = y at cy y0 y1 htri
          have hw3 := IntWalk.i64_in y (by omega)
          have hw4 := IntWalk.i64_in (3 * y) (by omega)
          generalize triL (ys.take j) = TL at hrow htri hlen
          go_wp2_with (first
            | (at_builtin; refine wpList_append_own_at _ rfl _ _ 23 rfl w.heap.size 3 i0 (.int .i64 0) 1 8 Try.underlying23 hi0 hz0 hz1 hz2 rfl (by decide) u16 _ _ rfl (hrow.alloc _) ⟨wr.heap.size, 0, none⟩ 1 1 [.int .i64 (3 * y)] rfl rfl (cell_one_new _ _ _) (by simp [Value.oneCell']) (by unfold maxLen; omega) (by omega) (by simp; omega) ?_; intro v' w8 hown8 hg8 hnil8 hat8)
            | go_in)
          have hGa := hG.keep0 (GrowBut.alloc wr (.cells #[.int .i64 (3 * y)] 3) [])
          have hG8 := hGa.keptRow (hrow.alloc (.cells #[.int .i64 (3 * y)] 3)) hg8 hnb
          have hlow : ∀ b, u16.ownBlock = some b → w.heap.size ≤ b := fun b hb => (hrow.lt b hb).1
          have hg08 : GrowBut w w8 [] := (hgr.trans (GrowBut.alloc wr (.cells #[.int .i64 (3 * y)] 3) [])).from (GrowBut.of_rowG hg8) (fun x hx => .inr (hlow x (by simpa using hx)))
          have hnb8 : ∀ b, v'.ownBlock = some b → b ∉ A.all := fun b hb hm => by
            rcases hat8 with h8 | h8
            · rw [h8] at hb; exact hnb b hb hm
            · rw [h8] at hb
              cases hb
              have := hGa.lt _ hm
              omega
          exact ⟨⟨j + 1, by simp, by omega, by rw [htri]; simpa using hown8, hnb8, hG8, hg08⟩, by simp [natOf]; omega⟩
        · have hjl : j = ys.length := by omega
          subst hjl
          rw [List.take_length] at hrow
          have hge : ¬ ((ys.length : Nat) : Int) < ((ys.length : Nat) : Int) := by omega
          have hPl : (triL ys).length = ys.length := by unfold triL; simp
          have hPr : ∀ x ∈ triL ys, 0 ≤ x ∧ x < 4096 := fun x hx => by
            obtain ⟨y, hy', rfl⟩ := List.mem_map.1 hx
            have := hy.rng y hy'
            omega
          have hFi := fitsG A [] (16 * zs.length) F u16 (triL ys) wr hG (AllRow.of hrow) (by omega)
          generalize triL ys = P at hrow hFi hPl hPr
          have hPl12 : P.length ≤ 12 := by omega
          clear hPl
          cases hb : decide (fitN F P ≤ A.n) with
          | false =>
            rw [hb] at hFi
            clear hb
            go_wp2_with (first
              | (go_at_call 19; refine hFi.mono ?_; rintro e w5 ⟨rfl, hg5⟩)
              | go_in)
            go_ret
            exact ⟨rfl, hgr.trans hg5⟩
          | true =>
            rw [hb] at hFi
            rw [decide_eq_true_eq] at hb
            have hbd : ∀ F', (∀ k, k ∉ P → F' k = F k) → LfOk F' → tabsN F' ≤ A.n := fun F' h1 h2 => Nat.le_trans (fit_bound h1 h2) hb
            have hHb : HideG (∀ F', (∀ k, k ∉ P → F' k = F k) → LfOk F' → tabsN F' ≤ A.n) := hbd
            obtain ⟨s, c, rfl, hcs⟩ := AllRow.of hrow
            have hown : ∀ g, s = some ⟨g, 0, none⟩ → g ∉ A.bl := fun g hs hm => hnb g (by rw [hs]; rfl) (A.bl_all g hm)
            clear hb hbd hrow hnb
            go_upto_region 24 with (first
              | (go_at_call 19; refine hFi.mono ?_; clear hFi; rintro e w5 ⟨rfl, hg5⟩)
              | go_in)
            have hG5 := hG.keep0 hg5
            have hgr5 := hgr.trans hg5
            have hcs5 : ∀ j, j < P.length → ∃ g, s = some ⟨g, 0, none⟩ ∧ w5.cell? ⟨g, j, none⟩ = some (.int .i64 (P.getD j 0)) := fun j hj => by
              obtain ⟨g, h1, h2⟩ := hcs j hj
              exact ⟨g, h1, hg5.cell h2 (by simp)⟩
            clear hcs hG hgr hg5 hge
            go_wp2_with fail
            go_loopw [18] (fun v18 wx => ∃ (i : Nat) (F' : LfF), v18 = .int .i64 i ∧ i ≤ P.length ∧ GrAt wx A [] (16 * zs.length + i) F' ∧ HideG (∀ k, k ∉ P → F' k = F k) ∧ GrowBut w wx [] ∧ GrowBut w5 wx A.bl) (fun v18 _ => P.length - natOf v18)
            case atStart => exact ⟨0, F, rfl, by omega, hG5, fun k _ => rfl, hgr5, .refl _ _⟩
            case round =>
              obtain ⟨i, F', rfl, hi, hG, hoff, hgr, hg5⟩ := hrel
              by_cases hli : i < P.length
              · have hli' : (i : Int) < (P.length : Int) := by omega
                obtain ⟨g, rfl, cg⟩ := hcs5 i hli
                have cx := hg5.cell cg (hown g rfl)
                have hxm := mem_getD hli
                obtain ⟨hx0, hx1⟩ := hPr _ hxm
                generalize P.getD i 0 = x at cx hxm hx0 hx1
                have hwx : (Lit.int .i64 x).wf = true := wfI (by omega) (by omega)
                have hGe := getG A [] (16 * zs.length + i) F' x wr hG hwx
                obtain ⟨l, hl⟩ : ∃ l, (F' x).getD (0, 0) = l := ⟨_, rfl⟩
                rw [hl] at hGe
                obtain ⟨l1, l2⟩ := l
                unfold leafV at hGe
                simp only at hGe
                clear hl
                have hgB := hown g rfl
                have hfinS : ∀ w6, GrAt w6 A [] (16 * zs.length + i + 1) (putL F' x (99, 1)) → GrowBut w w6 [] → GrowBut w5 w6 A.bl → (∃ (i_1 : Nat) (F'_1 : LfF), Value.int .i64 ((i : Int) + 1) = .int .i64 i_1 ∧ i_1 ≤ P.length ∧ GrAt w6 A [] (16 * zs.length + i_1) F'_1 ∧ HideG (∀ k, k ∉ P → F'_1 k = F k) ∧ GrowBut w w6 [] ∧ GrowBut w5 w6 A.bl) ∧ P.length - natOf (.int .i64 ((i : Int) + 1)) < P.length - natOf (.int .i64 (i : Int)) := fun w6 h1 h2 h3 =>
                  ⟨⟨i + 1, _, by simp, by omega, h1, fun k hk => by rw [put_other _ _ _ (fun e : k = x => hk (by rw [e]; exact hxm))]; exact hoff.out k hk, h2, h3⟩, by simp [natOf]; omega⟩
                have hrS : tabsN (putL F' x (99, 1)) ≤ A.n := hHb.out _ (fun k hk => by rw [put_other _ _ _ (fun e : k = x => hk (by rw [e]; exact hxm))]; exact hoff.out k hk) (hG.ok.put ⟨hx0, hx1, by decide, by decide, by decide, by decide⟩)
                have hSS := fun w6 (h6 : GrAt w6 A [] (16 * zs.length + i) F') => setG A [] (16 * zs.length + i) F' x (99, 1) w6 h6 (by omega) ⟨hx0, hx1, by decide, by decide, by decide, by decide⟩
                rw [orE_ok hrS, orL_ok hrS] at hSS
                unfold leafV at hSS
                simp only at hSS
                cases his : (F' x).isSome with
                | false =>
                  rw [his] at hGe
                  clear his hrS
                  cases cut
                  all_goals
                    go_wp2_with (first
                      | (go_at_call 25; refine hGe.mono ?_; clear hGe; rintro e w7 ⟨rfl, hg7⟩; have hga7 := hg7.trans (GrowBut.alloc w7 (.cells #[.int .i64 l1, .int .i64 l2] 39) []); have hG7 := hG.keep0 hga7; have cx7 := hga7.cell cx (by simp); have hS := hSS _ hG7)
                      | (go_at_call 16; refine hS.mono ?_; clear hS; rintro e w6 ⟨rfl, hG6, hg6⟩)
                      | go_in)
                    exact hfinS _ hG6 (hnxt (hgr.trans hga7) hg6) ((hg5.trans (hga7.mono (by simp))).trans hg6)
                | true =>
                  rw [his] at hGe
                  cases cut with
                  | false =>
                    clear his hrS
                    go_wp2_with (first
                      | (go_at_call 25; refine hGe.mono ?_; clear hGe; rintro e w7 ⟨rfl, hg7⟩; have hga7 := hg7.trans (GrowBut.alloc w7 (.cells #[.int .i64 l1, .int .i64 l2] 39) []); have hG7 := hG.keep0 hga7; have cx7 := hga7.cell cx (by simp); have hS := hSS _ hG7)
                      | (go_at_call 16; refine hS.mono ?_; clear hS; rintro e w6 ⟨rfl, hG6, hg6⟩)
                      | go_in)
                    exact hfinS _ hG6 (hnxt (hgr.trans hga7) hg6) ((hg5.trans (hga7.mono (by simp))).trans hg6)
                  | true =>
                    have hoffC : ∀ k, k ∉ P → delL F' x k = F k := fun k hk => by
                      unfold delL
                      rw [if_neg (fun e : k = x => hk (by rw [e]; exact hxm))]
                      exact hoff.out k hk
                    have hrC : tabsN (delL F' x) ≤ A.n := hHb.out _ hoffC (hG.ok.del x)
                    have hCC := fun w6 (h6 : GrAt w6 A [] (16 * zs.length + i) F') => cutG A [] (16 * zs.length + i) F' x w6 h6 (by omega) ⟨hx0, hx1⟩
                    unfold cutE cutF at hCC
                    simp only [his, if_true] at hCC
                    rw [orE_ok hrC, orL_ok hrC] at hCC
                    have hHo : HideG (∀ k, k ∉ P → delL F' x k = F k) := hoffC
                    clear his hrS hrC hoffC
                    go_wp2_with (first
                      | (go_at_call 25; refine hGe.mono ?_; clear hGe; rintro e w7 ⟨rfl, hg7⟩; have hga7 := hg7.trans (GrowBut.alloc w7 (.cells #[.int .i64 l1, .int .i64 l2] 39) []); have hG7 := hG.keep0 hga7; have cx7 := hga7.cell cx (by simp); have hC := hCC _ hG7)
                      | (go_at_call 14; refine hC.mono ?_; clear hC; rintro e w6 ⟨rfl, hG6, hg6⟩)
                      | go_in)
                    exact ⟨⟨i + 1, _, by simp, by omega, hG6, hHo, hnxt (hgr.trans hga7) hg6, (hg5.trans (hga7.mono (by simp))).trans hg6⟩, by simp [natOf]; omega⟩
              · have hiP : i = P.length := by omega
                subst hiP
                clear hcs5
                go_wp2_with fail
                go_ret
                exact ⟨rfl, hgr⟩

theorem graftFits_walk (zs : List Int) (p : Option Addr) (c1 : Nat) (ys : List Int) (q : Option Addr) (c2 : Nat) (ta : Int) (cut : Bool) (w : World) (hz : ∀ i, i < zs.length → ∃ a, p = some a ∧ a.block < w.heap.size ∧ w.cell? (a.add i) = some (.int .u8 (zs.getD i 0))) (hwz : ∀ n ∈ zs, (Lit.int .u8 n).wf = true)
    (hy : ∀ i, i < ys.length → ∃ a, q = some a ∧ a.block < w.heap.size ∧ w.cell? (a.add i) = some (.int .u8 (ys.getD i 0))) (hwy : ∀ n ∈ ys, (Lit.int .u8 n).wf = true) (hta : (Lit.int .u8 ta).wf = true) :
    Calls Try.prog 5 #[.slice p zs.length c1, .slice q ys.length c2, .int .u8 ta, .bool cut] w fun e w' => e = .returned (.bool true) ∧ w.grownBy w' none := by
  have ht := wf_u8 hta
  obtain ⟨t, rfl⟩ : ∃ t : Nat, ta = t := ⟨ta.toNat, by omega⟩
  exact (fits_walk zs ys p q c1 c2 t cut w ⟨ints_at hz, fun x hx => wf_u8 (hwz x hx)⟩ ⟨ints_at hy, fun x hx => wf_u8 (hwy x hx)⟩ (by omega)).mono fun e w' h => ⟨h.1, h.2.keepAll⟩

end Go.Proofs.Ytdhnfhhmacjajaa


/-
  Arguments that come in: arrays of numbers, rows of numbers (for a seat without api.Regs).
-/
namespace Go.Proofs.Ytdhnfhhmacjajaa
open Go Go.ChangeShapes Go.WideShapes Go.ChangeAt Go.RowKit
set_option linter.unusedVariables false
set_option linter.unusedSimpArgs false

theorem laidOut : laidOutB Try.prog = true := by kernel_rfl
theorem ownKnobs : ownKnob Try.prog.godebug = none := by kernel_rfl

/-! ### Arrays of numbers that come in -/
theorem mapM_all {α β : Type} {f : α → Option β} : ∀ {L : List α} {ys : List β}, L.mapM f = some ys → ∀ i ∈ L, ∃ y, f i = some y
  | [], _, _, i, hi => by simp at hi
  | x :: L, ys, h, i, hi => by
    rw [List.mapM_cons] at h
    simp only [bind, Option.bind_eq_some_iff, pure, Option.some.injEq] at h
    obtain ⟨y, hy, zs, hz, _⟩ := h
    rcases List.mem_cons.1 hi with rfl | hi
    · exact ⟨y, hy⟩
    · exact mapM_all hz i hi

theorem all_ints {q : IntKind} : ∀ (l : List Value), (∀ x ∈ l, ∃ a, x = .int q a) → ∃ zs : List Int, l = zs.map (Value.int q ·)
  | [], _ => ⟨[], rfl⟩
  | x :: l, h => by
    obtain ⟨a, rfl⟩ := h x (by simp)
    obtain ⟨zs, rfl⟩ := all_ints l fun y hy => h y (by simp [hy])
    exact ⟨a :: zs, rfl⟩

theorem arr_ints {H : Type} {enc : TypeId × Value → H} {P : Program} {k e : TypeId} {n : Nat} {q : IntKind} {W : World} {base : Nat} {sp : Nat → Bool} {held : Bool} (hu : P.underlying k = some (.array n e)) (he : P.underlying e = some (.int q)) (h1 : P.cellsOf e = 1) (hk : P.cellsOf k = n)
    {xs : Array Value} (hn : xs.size = n) {d : DataW H} {ps : List MemPlace} (hd : DataW.Trod enc P W base sp held k (.agg xs) d ps) : ps = [] ∧ ∃ zs : List Int, xs.toList = zs.map (Value.int q ·) ∧ zs.length = n := by
  obtain ⟨fuel, hf⟩ := hd
  cases fuel with
  | zero => simp [DataW.trod] at hf
  | succ m =>
    rw [DataW.trod_step] at hf
    unfold DataW.trodStep at hf
    simp only [hu, Value.cells] at hf
    rw [if_pos (by rw [hk]; simpa using hn)] at hf
    simp only [Option.map_eq_some_iff] at hf
    obtain ⟨ys, hy, e1⟩ := hf
    obtain ⟨ls, hls, _⟩ := Go.WideMaps.mapM_both (D := 0) he _ ys hy
    simp only [Prod.mk.injEq] at e1
    refine ⟨by rw [← e1.2, hls]; simp [List.flatMap_eq_nil_iff], ?_⟩
    have hall : ∀ x ∈ xs.toList, ∃ a, x = Value.int q a := fun x hx => by
      obtain ⟨i, hi, hxi⟩ := List.getElem_of_mem hx
      have hin : i < n := by rw [← hn]; simpa using hi
      obtain ⟨y, hy'⟩ := mapM_all hy i (by simp [hin])
      obtain ⟨a, ha, _⟩ := DataW.trod_int he hy'
      refine ⟨a, ?_⟩
      rw [h1, Nat.mul_one] at ha
      have : ((xs.toList.drop i).take 1)[0]? = some (Value.int q a) := by rw [ha]; rfl
      rw [List.getElem?_take, if_pos (by omega), List.getElem?_drop, Nat.add_zero, List.getElem?_eq_getElem hi, hxi] at this
      exact Option.some.inj this
    obtain ⟨zs, hz⟩ := all_ints _ hall
    refine ⟨zs, hz, ?_⟩
    have := congrArg List.length hz
    simp at this
    omega

abbrev regs (x0 x1 x2 x3 x4 x5 x6 x7 : Int) : Value := .agg #[.int .u64 x0, .int .u64 x1, .int .u64 x2, .int .u64 x3, .int .u64 x4, .int .u64 x5, .int .u64 x6, .int .u64 x7]

set_option maxRecDepth 100000 in
theorem cell_ltO {w : World} {a : Addr} {v : Value} (h : w.cell? a = some v) : a.block < w.heap.size := by
  by_cases h2 : a.block < w.heap.size
  · exact h2
  · exfalso
    have h3 : w.heap[a.block]? = none := Array.getElem?_eq_none (by omega)
    simp [World.cell?, h3] at h

set_option maxRecDepth 100000 in
theorem slice_ints {H : Type} {enc : TypeId × Value → H} {W : World} {b0 : Nat} {r : Reach} {t e : TypeId} {q : IntKind} {v : Value} {d : DataW H} {ps : List MemPlace} (ht : Try.prog.underlying t = some (.slice e)) (he : Try.prog.underlying e = some (.int q)) (hc : Try.prog.cellsOf e = 1) (hval : Value.okWide Try.prog W r b0 t v)
    (hd : DataW.Trod enc Try.prog W 0 (fun _ => true) true t v d ps) :
    ∃ (zs : List Int) (p : Option Addr) (cap : Nat), v = .slice p zs.length cap ∧ (∀ i, i < zs.length → ∃ a, p = some a ∧ a.block < W.heap.size ∧ W.cell? (a.add i) = some (.int q (zs.getD i 0))) ∧ ∀ n ∈ zs, (Lit.int q n).wf = true := by
  obtain ⟨fuel, hf⟩ := hd
  obtain ⟨a0, len, cap, rfl⟩ := okWide_slice ht hval
  rcases open_ints ht he hc hf with ⟨hcs, hx⟩ | ⟨a, len', cap', zs, hcs, _, hl, hm, hz, hx, hcell, hwz⟩
  · simp [Value.cells] at hcs
    obtain ⟨rfl, rfl, rfl⟩ := hcs
    exact ⟨[], none, 0, rfl, fun i hi => by simp at hi, fun n hn => by simp at hn⟩
  · simp [Value.cells] at hcs
    obtain ⟨rfl, rfl, rfl⟩ := hcs
    simp only [if_true] at hz
    refine ⟨zs.take len, _, cap, by rw [List.length_take, Nat.min_eq_left (by omega)], fun i hi => ?_, fun n hn => hwz n (List.mem_of_mem_take hn)⟩
    rw [List.length_take, Nat.min_eq_left (by omega)] at hi
    have h1 := hcell i (by omega)
    refine ⟨a, rfl, ?_, ?_⟩
    · have : (a.add i).block = a.block := by unfold Addr.add; first | rfl | (split <;> rfl)
      rw [← this]
      exact cell_ltO h1
    · rw [h1, List.getD_eq_getElem?_getD, List.getD_eq_getElem?_getD, List.getElem?_take_of_lt hi]

end Go.Proofs.Ytdhnfhhmacjajaa
