/-
  A piece of code that ends in one act, whatever the order: what follows is walked once.
-/
import Derived.Test.YtlgfopfibopcnaaGrow
namespace Go.Proofs.Ytlgfopfibopcnaa
open Go Go.RowKit
set_option linter.unusedVariables false

/-- What is asked of a piece of code that ends in its text's order. -/
def onlyV (Q : Act → World → Prop) : Exit → Act → World → Prop
  | .normal, a, w => Q a w
  | _, _, _ => False

/-- A piece of code that ends in one act, whatever the order: what follows is walked once. -/
theorem wp_via {P : Program} {c : Code} {K : Exit → Act → World → Prop} {a : Act} {w : World} (F : World → Prop) (f : Act → Act) (reg : ∀ Q : Act → World → Prop, (∀ w', F w' → Q (f a) w') → c.wp P (onlyV Q) a w) (cont : ∀ w', F w' → K .normal (f a) w') : c.wp P K a w :=
  Code.wp_mono (fun e a' w' h => by
    cases e with
    | normal => exact h
    | _ => exact h.elim) (reg (K .normal) cont)

end Go.Proofs.Ytlgfopfibopcnaa
