/-
  A run of the machine that is true: the call is.
-/
import Derived.Test.YtonbcchdaboigaaAm23
import Derived.Test.YtonbcchdaboigaaProg
import Derived.KernelRfl
namespace Go.Proofs.Ytonbcchdaboigaa
open Go Go.RowKit Go.Am
set_option linter.unusedVariables false

def isTrue : R (Done × AState) → Bool
  | .ok (.val (.lit (.bool true)), _) => true
  | _ => false

theorem isTrue_ok {r : R (Done × AState)} (h : isTrue r = true) : ∃ s, r = .ok (.val (.lit (.bool true)), s) := by
  unfold isTrue at h
  split at h
  · exact ⟨_, rfl⟩
  · cases h

def st0 : AState := ⟨.leaf, 0, big, 0⟩

def noPrims : Prims := fun _ => none

theorem noPrims_ok {P : Program} {σ : Syms} {N0 : Nat} {w0 : World} : ∀ f p, noPrims f = some p → PrimOk P σ N0 w0 f p := fun f p h => by cases h

theorem calls_runP {σ : Syms} {prims : Prims} {facts : Facts} (w : World) (hp : ∀ f p, prims f = some p → PrimOk Try.prog σ w.heap.size w f p) (hfa : FactsOk Try.prog σ facts) {f : FuncId} {args : List AVal} {us : Array Value} {n : Nat}
    (hf : plainFn Try.prog f = true) (ha : VRels σ (fun _ => none) args us.toList) (h : isTrue (run Try.prog prims facts (drawRun Try.prog) n (.call f args) st0) = true) :
    Calls Try.prog f us w (fun e w' => e = .returned (.bool true) ∧ Below w.heap.size w w') := by
  obtain ⟨s, hs⟩ := isTrue_ok h
  exact calls_true (by kernel_rfl) hfa hp hf ⟨rfl, rfl, rfl⟩ ha hs

end Go.Proofs.Ytonbcchdaboigaa
