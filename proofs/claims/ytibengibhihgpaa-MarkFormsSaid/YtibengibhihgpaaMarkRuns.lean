/-
  The law MarkForms, in the machine: how it is run.
-/
import Derived.Test.YtibengibhihgpaaOf2
namespace Go.Proofs.Ytibengibhihgpaa.markForms
open Go Go.RowKit Go.Am
set_option linter.unusedVariables false

noncomputable def prims : Prims := exploring ofPrims 100000 4096 [17]

/-- sender % 6 = s; drop % 20 = d. -/
def known (s d : Int) : Facts := fun op vs => match op, vs with
  | .binOp .rem _ _ _ _, [.sym 0, .lit (.int .u8 6)] => some (.lit (.int .u8 s))
  | .binOp .rem _ _ _ _, [.sym 1, .lit (.int .u8 20)] => some (.lit (.int .u8 d))
  | _, _ => none

noncomputable def goes (s d : Nat) : Bool := isTrue (run Try.prog prims (known s d) (drawRun Try.prog) 100000 (.call 4 [.sym 0, .sym 1]) st0)

def upTo (g : Nat → Bool) : Nat → Bool
  | 0 => true
  | r + 1 => g r && upTo g r

theorem upTo_ok {g : Nat → Bool} : ∀ {n r : Nat}, upTo g n = true → r < n → g r = true
  | 0, r, _, h => absurd h (Nat.not_lt_zero r)
  | n + 1, r, hu, h => by
    simp only [upTo, Bool.and_eq_true] at hu
    by_cases hr : r = n
    · subst hr; exact hu.1
    · exact upTo_ok hu.2 (by omega)

end Go.Proofs.Ytibengibhihgpaa.markForms
